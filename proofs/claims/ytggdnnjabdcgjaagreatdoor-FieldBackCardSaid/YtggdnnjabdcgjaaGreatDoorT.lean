/-
  Chapter 11: a field's line is read back, by the program and by the reference. No condition.
-/
import Derived.Test.YtggdnnjabdcgjaaGreatDoorS
namespace Go.Proofs.YtggdnnjabdcgjaaGreatDoor
open Go Go.Nu

/-! ### numbers that are read -/
theorem atoi_digits {s : List UInt8} (h0 : s ≠ []) (hd : s.all isD = true) (hv : valN 0 s ≤ 1000000) : atoiN s = ((valN 0 s : Int), none) := by
  obtain ⟨c, r, rfl⟩ : ∃ c r, s = c :: r := by cases s with | nil => exact (h0 rfl).elim | cons c r => exact ⟨c, r, rfl⟩
  have hcd : 48 ≤ c.toNat ∧ c.toNat ≤ 57 := by
    rw [List.all_cons, Bool.and_eq_true] at hd
    simpa [isD] using hd.1
  have ha : Lib.atoiAll (c :: r) = match Lib.parseUint10 0 (c :: r) with
      | .ok u => if 9223372036854775808 ≤ u then .range else .ok (u : Int)
      | .range => .range
      | _ => Lib.atoiAll [] := by
    unfold Lib.atoiAll
    simp only []
    rw [if_neg (show ¬ (c.toNat = 43 ∨ c.toNat = 45) by omega)]
    unfold Lib.parseMag
    rw [if_neg (by simp)]
    cases Lib.parseUint10 0 (c :: r) with
    | range => rfl
    | ok u =>
      simp only []
      by_cases hb : 9223372036854775808 ≤ u
      · rw [if_pos ⟨by omega, hb⟩, if_pos hb]
      · rw [if_neg (by omega), if_neg (by omega), if_neg (by omega), if_neg hb]
    | _ => rfl
  unfold atoiN
  rw [ha]
  rcases parse_val (c :: r) 0 hd with hp | ⟨hp, hge⟩
  · rw [hp]
    simp only []
    rw [if_neg (by omega)]
  · omega
theorem atoi_itoa {n : Int} (h0 : 0 ≤ n) (h1 : n ≤ 9999) : atoiN (Lib.itoa n) = (n, none) := by
  rw [itoa_pos h0]
  obtain ⟨d1, d2, d3, _⟩ := dec_digits n.toNat
  rw [atoi_digits d3 d1 (by omega), d2, Int.toNat_of_nonneg h0]

/-! ### the subfields of a line -/
theorem subsG_fuel : ∀ (n m : Nat) (t : List UInt8), t.length ≤ n → t.length ≤ m → subsG n t = subsG m t
  | 0, 0, _, _, _ => rfl
  | 0, m + 1, t, h, _ => by
    have : t = [] := List.length_eq_zero_iff.1 (by omega)
    subst this; rfl
  | n + 1, 0, t, _, h => by
    have : t = [] := List.length_eq_zero_iff.1 (by omega)
    subst this; rfl
  | n + 1, m + 1, t, h1, h2 => by
    unfold subsG
    split
    · rename_i c d u
      split
      · have := (inner_le u).1
        simp only [List.length_cons] at h1 h2
        rw [subsG_fuel n m _ (by omega) (by omega)]
      · rfl
    · rfl
def subsP (t : List UInt8) : List Sub := subsG t.length t
theorem subsP_cons {d : UInt8} {u : List UInt8} : subsP (36 :: d :: u) = (d, (inner u).1) :: subsP (inner u).2 := by
  unfold subsP
  show (if (36 : UInt8) = 36 then ((d, (inner u).1) :: subsG (u.length + 1) (inner u).2) else []) = (d, (inner u).1) :: subsG (inner u).2.length (inner u).2
  rw [if_pos rfl]
  congr 1
  have := (inner_le u).1
  exact subsG_fuel _ _ _ (by omega) (Nat.le_refl _)
theorem subsP_no {t : List UInt8} (h : ∀ d u, t ≠ 36 :: d :: u) : subsP t = [] := by
  unfold subsP
  match t with
  | [] => rfl
  | [c] => rfl
  | c :: d :: u =>
    show (if c = 36 then _ else _) = _
    rw [if_neg]
    rintro rfl
    exact h d u rfl
theorem subsP_print {l : List Sub} (h : ∀ s ∈ l, codeB s.1 = true) : subsP (printS l) = l := subsG_print _ l h (Nat.le_refl _)
theorem subsG_small : ∀ (n : Nat) (t : List UInt8), ∀ x ∈ subsG n t, x.2.length ≤ t.length
  | 0, _, x, hx => by cases hx
  | n + 1, t, x, hx => by
    unfold subsG at hx
    split at hx
    · rename_i c d u
      split at hx
      · have h1 := inner_le u
        rcases List.mem_cons.1 hx with rfl | hx
        · simp only [List.length_cons]; omega
        · have := subsG_small n _ x hx
          simp only [List.length_cons]; omega
      · cases hx
    · cases hx
theorem f75 (s : List UInt8) (hs : s.length ≤ 1000000) : F48 s = some (subsP s) := by
  unfold F48 big
  rw [gdN_self]
  refine loopK_rule (fun p : List UInt8 × List Sub => p.2 ++ subsP p.1 = subsP s ∧ p.2.length + p.1.length ≤ s.length) (fun p => p.1.length) ⟨rfl, by simp⟩ rfl ?_
  rintro ⟨t, l⟩ again ⟨he, hl⟩ hag
  simp only at he hl ⊢
  by_cases hlen : 1 < t.length
  · rw [dT (by omega), cond_true, gd_pos (by omega)]
    obtain ⟨c, d, u, rfl⟩ : ∃ c d u, t = c :: d :: u := by
      match t, hlen with
      | c :: d :: u, _ => exact ⟨c, d, u, rfl⟩
    simp only [show Int.toNat (0 : Int) = 0 from rfl, show Int.toNat (1 : Int) = 1 from rfl, show Int.toNat (2 : Int) = 2 from rfl, show List.getD (c :: d :: u) 0 0 = c from rfl, show List.getD (c :: d :: u) 1 0 = d from rfl, bnd_eq, List.drop_succ_cons, List.drop_zero]
    simp only [List.length_cons] at hl hlen
    by_cases hc : c = 36
    · subst hc
      rw [dT (show (((36 : UInt8).toNat : Nat) : Int) = 36 from rfl), cond_true, gd_pos (by simp only [List.length_cons]; omega), gd_pos (by simp only [List.length_cons]; omega)]
      rw [subsP_cons] at he
      have hin := inner_le u
      refine jn_rule (fun y => y = ((inner u).2, (inner u).1)) (fun next hn => ?_) ?_
      · rw [show gdN 0 (List.length ([] : List UInt8)) = id from funext fun x => if_pos rfl]
        simp only [id]
        refine loopK_rule (fun q : List UInt8 × List UInt8 => q.2 ++ (inner q.1).1 = (inner u).1 ∧ (inner q.1).2 = (inner u).2 ∧ q.2.length + q.1.length ≤ u.length) (fun q => q.1.length) ⟨rfl, rfl, by simp⟩ rfl ?_
        rintro ⟨v, b⟩ again2 ⟨g1, g2, g3⟩ hag2
        simp only at g1 g2 g3 ⊢
        simp only [gdN_self]
        match v, g1, g2, g3, hag2 with
        | [], g1, g2, _, _ =>
          rw [jn_eq]
          dsimp only
          rw [dT rfl, Bool.not_true, cond_false]
          refine hn _ ?_
          rw [← g1, ← g2]
          simp [inner]
        | x :: w, g1, g2, g3, hag2 =>
          simp only [List.length_cons] at g3
          have hgo : ∀ (k : Nat) (y : UInt8) (z : List UInt8), b ++ (y :: (inner z).1) = (inner u).1 → (inner z).2 = (inner u).2 → z.length + 1 ≤ w.length + 1 → again2 (z, b ++ [y]) = some (subsP s) := fun k y z q1 q2 q3 =>
            hag2 (z, b ++ [y]) ⟨by simpa using q1, q2, by simp only [List.length_append, List.length_singleton]; omega⟩ (by simp only [List.length_cons]; omega)
          rw [jn_eq]
          dsimp only
          rw [dF (by simp), Bool.not_false, cond_true, gd_pos (by simp only [List.length_cons]; omega)]
          simp only [show List.getD (x :: w) 0 0 = x from rfl, show Int.toNat (0 : Int) = 0 from rfl]
          by_cases hx : x = 36
          · subst hx
            rw [dT (show (((36 : UInt8).toNat : Nat) : Int) = 36 from rfl), Bool.not_true, cond_false]
            unfold fHas
            rw [bindO_some]
            match w, g1, g2, g3, hag2, hgo with
            | [], g1, g2, _, _, _ =>
              show (bif false then _ else _) = _
              rw [cond_false]
              refine hn _ ?_
              rw [← g1, ← g2]
              simp [inner]
            | y :: z, g1, g2, g3, hag2, hgo =>
              by_cases hy : y = 36
              · subst hy
                rw [show ([36, 36] : List UInt8).isPrefixOf (36 :: 36 :: z) = true from by simp [List.isPrefixOf], cond_true]
                rw [jn_eq]
                dsimp only
                rw [gd_pos (by simp only [List.length_cons]; omega), cond_true]
                rw [gd_pos (by simp only [List.length_cons]; omega), gd_pos (by (try simp only [List.length_cons] at g3); (try simp only [List.length_cons]); omega), gd_pos (by (try simp only [List.length_cons] at g3); (try simp only [List.length_cons]); omega)]
                rw [inner_two] at g1 g2
                exact hgo 2 36 z g1 g2 (by simp only [List.length_cons]; omega)
              · rw [show ([36, 36] : List UInt8).isPrefixOf (36 :: y :: z) = false from by simp [List.isPrefixOf]; exact fun e => hy e.symm, cond_false]
                refine hn _ ?_
                rw [inner_one hy] at g1 g2
                rw [← g1, ← g2]
                simp
          · have hx' : ¬ ((x.toNat : Nat) : Int) = 36 := fun e => hx (by36.1 (by omega))
            rw [dF hx', Bool.not_false, cond_true, jn_eq]
            dsimp only
            rw [gd_pos (by simp only [List.length_cons]; omega), cond_false]
            rw [gd_pos (by simp only [List.length_cons]; omega), gd_pos (by (try simp only [List.length_cons] at g3); (try simp only [List.length_cons]); omega), gd_pos (by (try simp only [List.length_cons] at g3); (try simp only [List.length_cons]); omega)]
            rw [inner_cons hx] at g1 g2
            exact hgo 1 x w g1 g2 (by omega)
      rintro _ rfl
      simp only [gdN_self]
      rw [gd_pos (by simp only [List.length_singleton]; omega)]
      refine hag _ ⟨?_, by simp only [List.length_append, List.length_singleton]; omega⟩ (by simp only [List.length_cons]; omega)
      simp only []
      rw [← he, List.append_assoc]
      rfl
    · have hc' : ¬ ((c.toNat : Nat) : Int) = 36 := fun e => hc (by36.1 (by omega))
      rw [dF hc', cond_false]
      rw [subsP_no (fun d' u' e => hc (by injection e))] at he
      rw [← he, List.append_nil]
  · rw [dF (by omega), cond_false]
    rw [subsP_no (fun d' u' e => by rw [e] at hlen; simp at hlen)] at he
    rw [← he, List.append_nil]

/-! ### the field of a line -/
def zeroF : Field := ([], [], [], 0)
def candP (s : List UInt8) : Field :=
  let y := Lib.splitK [32] 0 2 s
  ((Lib.cut (y.getD 0 []) [64]).1, repl 35 [32] (y.getD 1 []), subsP (y.getD 2 []), (atoiN (Lib.cut (y.getD 0 []) [64]).2.1).1)
theorem candP_print {f : Field} (h : OkF f) : candP (printF f) = f := by
  unfold candP
  rw [split_print h]
  simp only [show List.getD [f.1 ++ authS f.2.2.2, repl 32 [35] f.2.1, printS f.2.2.1] 0 [] = f.1 ++ authS f.2.2.2 from rfl, show List.getD [f.1 ++ authS f.2.2.2, repl 32 [35] f.2.1, printS f.2.2.1] 1 [] = repl 32 [35] f.2.1 from rfl,
    show List.getD [f.1 ++ authS f.2.2.2, repl 32 [35] f.2.1, printS f.2.2.1] 2 [] = printS f.2.2.1 from rfl]
  rw [(mid_no h).2.1, subsP_print fun s hs => (errS_zero (h.subs s hs)).1]
  have h64 : (64 : UInt8) ∉ f.1 := not_mem_of (tag_len h.tag).2 (by decide)
  by_cases h0 : f.2.2.2 = 0
  · have : authS f.2.2.2 = [] := by unfold authS; rw [if_pos h0]
    rw [this, List.append_nil, cut_no h64]
    show (f.1, f.2.1, f.2.2.1, (0 : Int)) = f
    rw [← h0]
  · have : authS f.2.2.2 = 64 :: Lib.itoa f.2.2.2 := by unfold authS; rw [if_neg h0]
    rw [this, cut_at h64]
    show (f.1, f.2.1, f.2.2.1, (atoiN (Lib.itoa f.2.2.2)).1) = f
    rw [atoi_itoa h.lo h.hi]
theorem printF_inj {f g : Field} (hf : OkF f) (hg : OkF g) (h : printF f = printF g) : f = g := by
  rw [← candP_print hf, ← candP_print hg, h]
/-- What a line is read as. -/
noncomputable def parseP (s : List UInt8) : Field × Int := open Classical in if h : ∃ f, errF f = 0 ∧ printF f = s then (h.choose, 0) else (zeroF, 3)
theorem parseP_print {f : Field} (h : errF f = 0) : parseP (printF f) = (f, 0) := by
  unfold parseP
  have hex : ∃ g, errF g = 0 ∧ printF g = printF f := ⟨f, h, rfl⟩
  rw [dif_pos hex]
  have := hex.choose_spec
  rw [printF_inj (okF_of this.1) (okF_of h) this.2]
theorem parseP_no {s : List UInt8} (h : ¬ ∃ f, errF f = 0 ∧ printF f = s) : parseP s = (zeroF, 3) := by
  unfold parseP
  rw [dif_neg h]
theorem parseP_ok {s : List UInt8} (h : (parseP s).2 = 0) : errF (parseP s).1 = 0 ∧ printF (parseP s).1 = s := by
  by_cases hex : ∃ f, errF f = 0 ∧ printF f = s
  · obtain ⟨f, h1, rfl⟩ := hex
    rw [parseP_print h1]; exact ⟨h1, rfl⟩
  · rw [parseP_no hex] at h; cases h
theorem printF_pos {f : Field} (h : OkF f) : 9 ≤ (printF f).length := by
  rw [printF_parts]
  have h1 := (tag_len h.tag).1
  have h2 := (mid_no h).2.2.1
  have h3 : 2 ≤ (printS f.2.2.1).length := by
    have := h.ne
    cases hl : f.2.2.1 with
    | nil => exact (this hl).elim
    | cons s l => simp only [printS, List.length_cons]; omega
  simp only [List.length_append, List.length_cons]
  omega
theorem f49 (s : List UInt8) (hs : s.length ≤ 1000000) : F24 s = some (parseP s) := by
  unfold F24 fSplitN
  rw [if_pos ⟨by omega, by simp, by decide, by decide⟩, bindO_some]
  have hk : min (Int.toNat 3) (s.length + 1) - 1 = if 2 ≤ s.length then 2 else s.length := by
    rw [show Int.toNat 3 = 3 from rfl]
    split <;> omega
  have hle := split_len (c := 32) (min (Int.toNat 3) (s.length + 1) - 1) s
  by_cases h3 : (Lib.splitK [32] 0 (min (Int.toNat 3) (s.length + 1) - 1) s).length < 3
  · rw [dT (by omega), cond_true, parseP_no]
    · rfl
    · rintro ⟨f, h1, rfl⟩
      have ok := okF_of h1
      have := printF_pos ok
      rw [hk, if_pos (by omega), split_print ok] at h3
      simp at h3
  · rw [dF (by omega), cond_false]
    have h2 : 2 ≤ s.length := by
      rw [hk] at hle h3
      split at hle
      · assumption
      · rename_i h2
        rw [if_neg h2] at h3
        omega
    rw [hk, if_pos h2] at h3 hle
    rw [hk, if_pos h2]
    have hsm := split_small (c := 32) 2 s
    have hcand : candP s = ((Lib.cut ((Lib.splitK [32] 0 2 s).getD 0 []) [64]).1, repl 35 [32] ((Lib.splitK [32] 0 2 s).getD 1 []), subsP ((Lib.splitK [32] 0 2 s).getD 2 []), (atoiN (Lib.cut ((Lib.splitK [32] 0 2 s).getD 0 []) [64]).2.1).1) := rfl
    generalize hy : Lib.splitK [32] 0 2 s = y at *
    have m0 := hsm _ (getD_mem [] (show 0 < y.length by omega))
    have m1 := hsm _ (getD_mem [] (show 1 < y.length by omega))
    have m2 := hsm _ (getD_mem [] (show 2 < y.length by omega))
    have hcl : (Lib.cut (y.getD 0 []) [64]).2.1.length ≤ 1000000 := by
      rw [cut_one]
      split
      · simp only [List.length_drop]; omega
      · simp
    unfold fCut fAtoi fRepl
    simp only [show Int.toNat (0 : Int) = 0 from rfl, show Int.toNat (1 : Int) = 1 from rfl, show Int.toNat (2 : Int) = 2 from rfl]
    rw [gd_pos (by omega), if_pos (by omega), bindO_some, if_pos (by omega), bindO_some, gd_pos (by omega), if_pos ⟨by omega, by simp, by simp⟩, bindO_some, gd_pos (by omega), f75 _ (by omega), bindO_some, repl_all (by decide), ← hcand]
    have hsz : sizeS (candP s).2.2.1 := by
      rw [hcand]
      intro x hx
      have := subsG_small _ _ x hx
      omega
    rw [f26 _ hsz, bindO_some]
    unfold printP
    by_cases he : errF (candP s) = 0
    · rw [if_pos he]
      dsimp only
      rw [dT rfl, Bool.not_true, cond_false]
      by_cases hp : printF (candP s) = s
      · rw [dT hp, Bool.not_true, cond_false]
        have := parseP_print he
        rw [hp] at this
        rw [this]
      · rw [dF hp, Bool.not_false, cond_true, parseP_no]
        · rfl
        · rintro ⟨f, h1, rfl⟩
          rw [candP_print (okF_of h1)] at hp
          exact hp rfl
    · rw [if_neg he]
      dsimp only
      rw [dF he, Bool.not_false, cond_true, parseP_no]
      · rfl
      · rintro ⟨f, h1, rfl⟩
        rw [candP_print (okF_of h1)] at he
        exact he h1
end Go.Proofs.YtggdnnjabdcgjaaGreatDoor
