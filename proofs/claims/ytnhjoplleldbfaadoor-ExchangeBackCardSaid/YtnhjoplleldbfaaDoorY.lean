/-
  Chapter 10: numbers with leading zeros, cuts, the chapter's examples; the laws on Encode and Export. No condition beyond what each line says.
-/
import Derived.Test.YtnhjoplleldbfaaDoorX
import Derived.Test.YtnhjoplleldbfaaDoorFb
namespace Go.Proofs.YtnhjoplleldbfaaDoor
open Go Go.Nu

/-- A number's last w digits. -/
def numX : Nat → Nat → List UInt8
  | _, 0 => []
  | n, w + 1 => numX (n / 10) w ++ [UInt8.ofNat (48 + n % 10)]
theorem numX_len : ∀ (w n : Nat), (numX n w).length = w
  | 0, _ => rfl
  | w + 1, n => by simp [numX, numX_len w]
theorem numX_zero : ∀ w : Nat, numX 0 w = List.replicate w 48
  | 0 => rfl
  | w + 1 => by
    rw [numX, numX_zero w, List.replicate_succ']
    rfl
theorem numW_X : ∀ (w n : Nat), n < 10 ^ (w + 1) → numW n (w + 1) = numX n (w + 1)
  | 0, n, h => by
    unfold numW
    rw [itoa_nat, dec_lt (by simpa using h)]
    simp only [numX, List.length_singleton, List.nil_append, Nat.zero_add, Nat.sub_self, List.replicate_zero]
    rw [Nat.mod_eq_of_lt (by simpa using h)]
  | w + 1, n, h => by
    by_cases hn : n < 10
    · unfold numW
      rw [itoa_nat, dec_lt hn, numX, show n / 10 = 0 by omega, numX_zero, Nat.mod_eq_of_lt hn]
      rfl
    · have ih := numW_X w (n / 10) (by rw [Nat.pow_succ] at h; omega)
      unfold numW at ih ⊢
      rw [itoa_nat] at ih ⊢
      rw [dec_ge hn, numX, ← ih, List.length_append, List.length_singleton, ← List.append_assoc, show w + 1 + 1 - ((Lib.decDigits (n / 10)).length + 1) = w + 1 - (Lib.decDigits (n / 10)).length by omega]
theorem numW1 {n : Nat} (h : n < 10) : numW n 1 = numX n 1 := numW_X 0 n (by simpa using h)
theorem numW4 {n : Nat} (h : n < 10000) : numW n 4 = numX n 4 := numW_X 3 n (by simpa using h)
theorem numW5 {n : Nat} (h : n < 100000) : numW n 5 = numX n 5 := numW_X 4 n (by simpa using h)
/-- What digits denote. -/
def valF (n : Nat) (l : List UInt8) : Nat := l.foldl (fun n c => n * 10 + (c.toNat - 48)) n
theorem valF_app (a b : List UInt8) (n : Nat) : valF n (a ++ b) = valF (valF n a) b := List.foldl_append ..
theorem valF_nil (n : Nat) : valF n [] = n := List.foldl_nil ..
theorem valF_cons (n : Nat) (c : UInt8) (l : List UInt8) : valF n (c :: l) = valF (n * 10 + (c.toNat - 48)) l := List.foldl_cons ..
theorem valF_one (n : Nat) (c : UInt8) : valF n [c] = n * 10 + (c.toNat - 48) := by rw [valF_cons, valF_nil]
theorem dig_toNat {d : Nat} (h : d < 10) : (UInt8.ofNat (48 + d)).toNat = 48 + d := by
  rw [UInt8.toNat_ofNat']; omega
theorem numX_succ (n w : Nat) : numX n (w + 1) = numX (n / 10) w ++ [UInt8.ofNat (48 + n % 10)] := rfl
theorem valF_numX (w : Nat) : ∀ (n m : Nat), n < 10 ^ w → valF m (numX n w) = m * 10 ^ w + n := by
  induction w with
  | zero =>
    intro n m h
    rw [Nat.pow_zero] at h ⊢
    rw [show numX n 0 = [] from rfl, valF_nil]
    omega
  | succ w ih =>
    intro n m h
    rw [Nat.pow_succ] at h ⊢
    have h1 : n / 10 < 10 ^ w := by omega
    have e := ih (n / 10) m h1
    rw [numX_succ, valF_app, e, valF_one, dig_toNat (Nat.mod_lt n (by omega : 0 < 10)), ← Nat.mul_assoc]
    generalize m * 10 ^ w = z
    clear ih h h1 e
    omega
theorem isD_iff (c : UInt8) : isD c = true ↔ 48 ≤ c.toNat ∧ c.toNat ≤ 57 := by
  unfold isD
  simp
theorem numX_isD : ∀ (w n : Nat), (numX n w).all isD = true
  | 0, _ => rfl
  | w + 1, n => by
    rw [numX, List.all_append, numX_isD w]
    have : isD (UInt8.ofNat (48 + n % 10)) = true := by
      rw [isD_iff, dig_toNat (Nat.mod_lt n (by omega : 0 < 10))]
      omega
    rw [List.all_cons, this]
    rfl
theorem valF_lt (l : List UInt8) : ∀ n : Nat, l.all isD = true → valF n l < (n + 1) * 10 ^ l.length := by
  induction l with
  | nil =>
    intro n _
    rw [List.length_nil, Nat.pow_zero]
    rw [valF_nil]
    omega
  | cons c l ih =>
    intro n h
    simp only [List.all_cons, Bool.and_eq_true] at h
    have h1 := (isD_iff c).1 h.1
    have := ih (n * 10 + (c.toNat - 48)) h.2
    rw [valF_cons, List.length_cons, Nat.pow_succ, Nat.mul_comm (10 ^ l.length) 10, ← Nat.mul_assoc]
    refine Nat.lt_of_lt_of_le this ?_
    exact Nat.mul_le_mul_right _ (by omega)

theorem caseO_some {α β : Type} {y : α} {p : Option β} {k : α → Option β} : caseO (some (some y)) p k = k y := rfl
theorem caseO_pan {α β : Type} {p : Option β} {k : α → Option β} : caseO (α := α) (some none) p k = p := rfl

theorem f30 (s : List UInt8) (a n : Nat) (hs : s.length ≤ 1000000000) : F30 s a n = some (if a ≤ s.length ∧ n ≤ s.length - a then some ((s.take (a + n)).drop a) else none) := by
  unfold F30
  rw [dF (by omega), cond_false, dF (by omega), cond_false]
  by_cases h1 : a ≤ s.length
  · rw [dF (by omega), cond_false, bnd_eq, i64_wrap (by omega)]
    by_cases h2 : n ≤ s.length - a
    · rw [dF (by omega), cond_false, bnd_eq, i64_wrap (by omega), gd_pos (by omega), bnd_eq, if_pos ⟨h1, h2⟩, Int.toNat_natCast, show ((a : Int) + (n : Int)).toNat = a + n by omega]
    · rw [dT (by omega), cond_true, if_neg (fun h => h2 h.2)]
  · rw [dT (by omega), cond_true, if_neg (fun h => h1 h.1)]

theorem f29 (l : List UInt8) (h : l.all isD = true) (hl : l.length ≤ 9) : F29 l = some (some ((valF 0 l : Nat) : Int)) := by
  unfold F29
  unfold big
  rw [gd_pos (by omega)]
  refine loopK_rule (fun p : Int × Int => ∃ i : Nat, p.2 = i ∧ i ≤ l.length ∧ p.1 = ((valF 0 (l.take i) : Nat) : Int)) (fun p => l.length - p.2.toNat) ⟨0, rfl, Nat.zero_le _, by rw [List.take_zero, valF_nil]; rfl⟩ rfl ?_
  rintro ⟨_, _⟩ again ⟨i, rfl, hi, rfl⟩ hag
  simp only
  by_cases hlt : i < l.length
  · have hd : isD (l.getD i 0) = true := List.all_eq_true.1 h _ (getD_mem 0 hlt)
    have h1 := (isD_iff _).1 hd
    have hv : valF 0 (l.take i) < 10 ^ i := by
      have := valF_lt (l.take i) 0 (by rw [List.all_eq_true] at h ⊢; exact fun x hx => h x (List.mem_of_mem_take hx))
      rw [List.length_take, Nat.min_eq_left hi] at this
      simpa using this
    have hp : (10 : Nat) ^ i ≤ 10 ^ 9 := Nat.pow_le_pow_right (by omega) (by omega)
    rw [show (10 : Nat) ^ 9 = 1000000000 by decide] at hp
    rw [dT (by omega), cond_true, gd_pos ⟨by omega, by omega⟩]
    simp only [toNat_nat, bnd_eq]
    rw [dF (by omega), cond_false, dF (by omega), cond_false]
    rw [i64_wrap (n := ((valF 0 (l.take i) : Nat) : Int) * 10) (by omega), show IntKind.u8.wrap (((l.getD i 0).toNat : Int) - 48) = ((l.getD i 0).toNat : Int) - 48 by rw [IntKind.wrap_u8]; omega]
    rw [i64_wrap (n := ((l.getD i 0).toNat : Int) - 48) (by omega), i64_wrap (n := ((valF 0 (l.take i) : Nat) : Int) * 10 + _) (by omega), i64_wrap (n := (i : Int) + 1) (by omega)]
    refine hag _ ⟨i + 1, rfl, hlt, ?_⟩ (by simp only [toNat1]; omega)
    rw [take_succ' 0 hlt, valF_app, valF_one]
    omega
  · rw [dF (by omega), cond_false, List.take_of_length_le (by omega)]
theorem f29X (n w : Nat) (h : n < 10 ^ w) (hw : w ≤ 9) : F29 (numX n w) = some (some (n : Int)) := by
  rw [f29 _ (numX_isD w n) (by rw [numX_len]; exact hw), valF_numX w n 0 h]
  simp

/-! ### the examples -/
theorem split25 : F11 [48, 48, 48, 50, 53] = some ([], (3 : Int)) := by
  unfold F11
  rw [show ∀ x : Option (List (List UInt8) × Int), gdN 0 ([] : List (List UInt8)).length x = x from fun x => gdN_self]
  refine loopK_rule (fun p : List UInt8 × List (List UInt8) => p = ([48, 48, 48, 50, 53], [])) (fun _ => 0) rfl rfl ?_
  rintro _ again rfl hag
  have h1 := f30 [48, 48, 48, 50, 53] 0 5 (by decide)
  have h2 := f29X 25 5 (by decide) (by decide)
  simp only [show ((0 : Nat) : Int) = 0 from rfl, show ((5 : Nat) : Int) = 5 from rfl] at h1
  rw [dF (by simp), Bool.not_false, cond_true]
  dsimp only
  rw [h1, if_pos (by decide), caseO_some, show List.drop 0 (List.take (0 + 5) ([48, 48, 48, 50, 53] : List UInt8)) = numX 25 5 by decide, h2, caseO_some, dT (by decide), cond_true]
theorem split0 : F11 [] = some ([], (0 : Int)) := by
  unfold F11
  rw [show ∀ x : Option (List (List UInt8) × Int), gdN 0 ([] : List (List UInt8)).length x = x from fun x => gdN_self]
  refine loopK_rule (fun p : List UInt8 × List (List UInt8) => p = ([], [])) (fun _ => 0) rfl rfl ?_
  rintro _ again rfl hag
  rw [dT (by simp), Bool.not_true, cond_false]
theorem import0 : F18 [] = some ([], (-1 : Int), (0 : Int)) := by
  unfold F18
  rw [jn_eq]
  rw [split0, bindO_some]
  rw [show ∀ x : Option (List Rec × Int × Int), gdN ([] : List Rec).length ([] : List Rec).length x = x from fun x => gdN_self]
  dsimp only
  rw [dT rfl, Bool.not_true, cond_false, dF (by decide), cond_false]
  refine loopK_rule (fun p : List Rec × Int => p = ([], 0)) (fun _ => 0) rfl rfl ?_
  rintro _ again rfl hag
  rw [dF (by decide), cond_false]
theorem enc1 : encP ((7 : Int), (3 : Int), (1 : Int), ([101, 110, 103] : List UInt8), [(([50, 52, 53] : List UInt8), ([49, 48] : List UInt8), [((UInt8.ofNat (Int.toNat (97 : Int))), ([68, 111, 103, 115] : List UInt8))], (0 : Int))]) = ([48, 48, 48, 53, 49, 110, 98, 51, 101, 110, 103, 48, 48, 48, 51, 55, 48, 48, 48, 55, 52, 53, 48, 48, 50, 52, 53, 48, 48, 49, 51, 48, 48, 48, 48, 48, 30, 49, 48, 48, 48, 48, 48, 31, 97, 68, 111, 103, 115, 30, 29], 0) := by
  have h0 : numW 0 4 = [48, 48, 48, 48] := (numW4 (by decide)).trans (by decide)
  have h1 : numW 0 5 = [48, 48, 48, 48, 48] := (numW5 (by decide)).trans (by decide)
  have h2 : numW 13 4 = [48, 48, 49, 51] := (numW4 (by decide)).trans (by decide)
  have h3 : numW 37 5 = [48, 48, 48, 51, 55] := (numW5 (by decide)).trans (by decide)
  have h4 : numW 51 5 = [48, 48, 48, 53, 49] := (numW5 (by decide)).trans (by decide)
  have h5 : numW 7 4 = [48, 48, 48, 55] := (numW4 (by decide)).trans (by decide)
  have h6 : Lib.itoa 3 = [51] := by rw [show (3 : Int) = ((3 : Nat) : Int) from rfl, itoa_nat, dec_lt (by decide)]; rfl
  unfold encP
  rw [if_neg (by decide)]
  simp [sizeE, baseE, recE, dirE, bodyE, fieldE, subsE, kindE, h0, h1, h2, h3, h4, h5, h6]
theorem enc2 : (encP ((0 : Int), (3 : Int), (1 : Int), ([101, 110, 103] : List UInt8), [])).2 = 0 ∧ (encP ((0 : Int), (3 : Int), (1 : Int), ([101, 110, 103] : List UInt8), [])).1.length = 26 := by
  have h0 : numW 0 4 = [48, 48, 48, 48] := (numW4 (by decide)).trans (by decide)
  have h3 : numW 25 5 = [48, 48, 48, 50, 53] := (numW5 (by decide)).trans (by decide)
  have h4 : numW 26 5 = [48, 48, 48, 50, 54] := (numW5 (by decide)).trans (by decide)
  have h6 : Lib.itoa 3 = [51] := by rw [show (3 : Int) = ((3 : Nat) : Int) from rfl, itoa_nat, dec_lt (by decide)]; rfl
  unfold encP
  rw [if_neg (by decide)]
  simp [sizeE, baseE, recE, dirE, bodyE, kindE, h0, h3, h4, h6]
theorem f7 : F7 = some true := by
  unfold F7
  rw [gd_pos (by decide), f9 _ (by intro f hf s hs; simp at hf; subst hf; simp at hs; subst hs; simp), bindO_some, enc1]
  dsimp only
  rw [dT rfl, Bool.not_true, cond_false, dT rfl, Bool.not_true, cond_false, f9 _ (by intro f hf; cases hf), bindO_some, dT enc2.1, Bool.not_true, cond_false, enc2.2, dT (by decide), Bool.not_true, cond_false, import0, bindO_some, split25, bindO_some]
  rfl

theorem law3 (r : Rec) : F3 r = some true := by
  unfold F3
  rw [f7, bindO_some]
  obtain ⟨b, h1, h2⟩ := f8 r
  rw [h1, bindO_some]
  cases b with
  | false => rfl
  | true =>
    have hs := h2 rfl
    show bindO (F9 r) _ = _
    rw [f9 r hs, bindO_some, f10 r hs, bindO_some, dT rfl, cond_true, dT rfl]
theorem law5 (l : List Rec) (t : UInt8) : F5 l t = some true := by
  unfold F5
  rw [f7, bindO_some, Bool.not_true, cond_false]
  obtain ⟨b, h1, h2⟩ := f14 l
  rw [h1, bindO_some]
  cases b with
  | false => rfl
  | true =>
    obtain ⟨hl, hs⟩ := h2 rfl
    rw [Bool.not_true, cond_false, gdN_self]
    have ht := t.toNat_lt
    refine loopK_rule (fun p : List Rec × Int => ∃ i : Nat, p.2 = i ∧ i ≤ 9 ∧ p.1.length ≤ 8 * i ∧ ∀ r ∈ p.1, SmallR r) (fun p => 10 - p.2.toNat) ⟨0, rfl, by omega, by simp, fun r hr => by cases hr⟩ rfl ?_
    rintro ⟨q, _⟩ again ⟨i, rfl, hi, hq, hsq⟩ hag
    simp only [gdN_self] at hq hsq ⊢
    rw [gd_pos (by decide), bnd_eq, i64_wrap (by omega)]
    have hm : Int.tmod ((t.toNat : Nat) : Int) 9 = ((t.toNat % 9 : Nat) : Int) := by rw [Int.tmod_eq_emod_of_nonneg (by omega)]; omega
    rw [hm]
    by_cases hc : i ≤ t.toNat % 9
    · rw [dT (by omega), cond_true]
      unfold big
      rw [gd_pos (by omega), bnd_eq, bnd_eq, i64_wrap (by omega)]
      refine hag _ ⟨i + 1, rfl, by omega, by rw [List.length_append]; omega, fun r hr => ?_⟩ (by simp only [toNat1]; omega)
      rcases List.mem_append.1 hr with hr | hr
      · exact hsq r hr
      · exact hs r hr
    · rw [dF (by omega), cond_false, f15 q hsq, bindO_some, f16 q hsq, bindO_some, dT rfl, cond_true, dT rfl]
end Go.Proofs.YtnhjoplleldbfaaDoor
