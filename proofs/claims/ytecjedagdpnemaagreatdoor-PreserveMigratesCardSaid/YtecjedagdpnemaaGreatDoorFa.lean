/-
  Plain functions that end with some value, or go on: rules by which both are shown at once. No condition.
-/
import Derived.Test.YtecjedagdpnemaaGreatDoorK5
namespace Go.Nu
variable {τ σ β : Type}
def Fate (V : β → Prop) (Y : τ → Prop) (E : (τ → Option β) → Option β) : Prop := (∃ v, V v ∧ ∀ ag, E ag = some v) ∨ ∃ t, Y t ∧ ∀ ag, E ag = ag t
variable {V : β → Prop} {Y : τ → Prop}
theorem Fate.val {v : β} (h : V v) : Fate V Y (fun _ => some v) := .inl ⟨v, h, fun _ => rfl⟩
theorem Fate.on {t : τ} (h : Y t) : Fate V Y (fun ag => ag t) := .inr ⟨t, h, fun _ => rfl⟩
theorem Fate.of_eq {E E' : (τ → Option β) → Option β} (h : Fate V Y E) (e : ∀ ag, E' ag = E ag) : Fate V Y E' := by
  rcases h with ⟨v, h1, h2⟩ | ⟨t, h1, h2⟩
  · exact .inl ⟨v, h1, fun ag => (e ag).trans (h2 ag)⟩
  · exact .inr ⟨t, h1, fun ag => (e ag).trans (h2 ag)⟩
theorem Fate.cnd {b : Bool} {A C : (τ → Option β) → Option β} (h1 : b = true → Fate V Y A) (h2 : b = false → Fate V Y C) : Fate V Y (fun ag => cond b (A ag) (C ag)) := by
  cases b
  · exact h2 rfl
  · exact h1 rfl
theorem Fate.gd {p : Prop} [Decidable p] {A : (τ → Option β) → Option β} (hp : p) (h : Fate V Y A) : Fate V Y (fun ag => gd p (A ag)) := h.of_eq fun _ => if_pos hp
theorem Fate.bnd {α : Type} {a : α} {K : α → (τ → Option β) → Option β} (h : Fate V Y (K a)) : Fate V Y (fun ag => bnd a fun x => K x ag) := h
theorem Fate.bind {α : Type} {X : Option α} {y : α} {K : α → (τ → Option β) → Option β} (e : X = some y) (h : Fate V Y (K y)) : Fate V Y (fun ag => bindO X fun x => K x ag) := h.of_eq fun _ => by rw [e]; rfl
theorem loopK_ev {body : σ → (σ → Option β) → Option β} {x0 : σ} {c : Option β} {N : Nat} (h : ∀ n, N ≤ n → iter body n x0 = c) : loopK body x0 = c := by
  cases c with
  | some r =>
    have hex : ∃ r : β, ∃ N, ∀ n, N ≤ n → iter body n x0 = some r := ⟨r, N, h⟩
    unfold loopK
    rw [dif_pos hex]
    obtain ⟨M, hM⟩ := hex.choose_spec
    have h1 := hM (max M N) (by omega)
    have h2 := h (max M N) (by omega)
    rw [h1] at h2
    exact h2
  | none =>
    have hex : ¬ ∃ r : β, ∃ N, ∀ n, N ≤ n → iter body n x0 = some r := by
      rintro ⟨r, M, hM⟩
      have h1 := hM (max M N) (by omega)
      rw [h (max M N) (by omega)] at h1
      cases h1
    unfold loopK
    rw [dif_neg hex]
def LoopY (Y : τ → Prop) (J : σ → Prop) (m : σ → Nat) (x : σ) : τ ⊕ σ → Prop
  | .inl t => Y t
  | .inr y => J y ∧ m y < m x
theorem LoopY.inr {J : σ → Prop} {m : σ → Nat} {x y : σ} (h : J y ∧ m y < m x) : LoopY Y J m x (.inr y) := h
theorem LoopY.inl {J : σ → Prop} {m : σ → Nat} {x : σ} {t : τ} (h : Y t) : LoopY Y J m x (.inl t) := h
theorem Fate.loop {body : (τ → Option β) → σ → (σ → Option β) → Option β} {x0 : σ} (J : σ → Prop) (m : σ → Nat) (h0 : J x0)
    (h : ∀ x, J x → Fate V (LoopY Y J m x) (fun ag => body (fun t => ag (.inl t)) x (fun y => ag (.inr y)))) : Fate V Y (fun ag => loopK (body ag) x0) := by
  have key : ∀ N x, J x → m x < N → (∃ v, V v ∧ ∀ ag : τ → Option β, ∀ n, N ≤ n → iter (body ag) n x = some v) ∨ ∃ t, Y t ∧ ∀ ag : τ → Option β, ∀ n, N ≤ n → iter (body ag) n x = ag t := by
    intro N
    induction N with
    | zero => intro x _ hm; omega
    | succ N ih =>
      intro x hJ hm
      have step : ∀ (ag : τ → Option β) (n : Nat), iter (body ag) (n + 1) x = body ag x (iter (body ag) n) := fun _ _ => rfl
      rcases h x hJ with ⟨v, h1, h2⟩ | ⟨z, h1, h2⟩
      · refine .inl ⟨v, h1, fun ag n hn => ?_⟩
        obtain ⟨n, rfl⟩ : ∃ k, n = k + 1 := ⟨n - 1, by omega⟩
        rw [step]
        exact h2 (fun z => match z with | .inl t => ag t | .inr y => iter (body ag) n y)
      · cases z with
        | inl t =>
          refine .inr ⟨t, h1, fun ag n hn => ?_⟩
          obtain ⟨n, rfl⟩ : ∃ k, n = k + 1 := ⟨n - 1, by omega⟩
          rw [step]
          exact h2 (fun z => match z with | .inl t => ag t | .inr y => iter (body ag) n y)
        | inr y =>
          have h3 := fun (ag : τ → Option β) (n : Nat) => h2 (fun z => match z with | .inl t => ag t | .inr y => iter (body ag) n y)
          rcases ih y h1.1 (by have := h1.2; omega) with ⟨v, k1, k2⟩ | ⟨t, k1, k2⟩
          · refine .inl ⟨v, k1, fun ag n hn => ?_⟩
            obtain ⟨n, rfl⟩ : ∃ k, n = k + 1 := ⟨n - 1, by omega⟩
            rw [step]
            exact (h3 ag n).trans (k2 ag n (by omega))
          · refine .inr ⟨t, k1, fun ag n hn => ?_⟩
            obtain ⟨n, rfl⟩ : ∃ k, n = k + 1 := ⟨n - 1, by omega⟩
            rw [step]
            exact (h3 ag n).trans (k2 ag n (by omega))
  rcases key (m x0 + 1) x0 h0 (Nat.lt_succ_self _) with ⟨v, h1, h2⟩ | ⟨t, h1, h2⟩
  · exact .inl ⟨v, h1, fun ag => loopK_ev (h2 ag)⟩
  · exact .inr ⟨t, h1, fun ag => loopK_ev (h2 ag)⟩
theorem Fate.whole {E : Option β} (h : Fate (τ := Empty) V (fun _ => False) (fun _ => E)) : ∃ v, V v ∧ E = some v := by
  rcases h with ⟨v, h1, h2⟩ | ⟨t, h1, _⟩
  · exact ⟨v, h1, h2 fun t => nomatch t⟩
  · exact h1.elim
end Go.Nu
