/- Plain law: the reference's rounds of reaching, pair by pair. No program in sight. -/
import Derived.Test.YtljchmkoafahgaaR1
namespace Go.Proofs.Ytljchmkoafahgaa
set_option linter.unusedVariables false

/-- k is v, or at most r arcs lead from v to it -/
def hit (a : List (List Int)) (n v r k : Nat) : Prop := k = v ∨ ∃ m, m.length + 1 ≤ r ∧ lo n m ∧ wk (zA a) k m v
/-- a row within round r + 1, the pairs of D done -/
structure RIn (a : List (List Int)) (n v r : Nat) (D : Nat → Nat → Prop) (f : Nat → Bool) : Prop where
  sound : ∀ i, i < n → f i = true → RP a n v i
  has : ∀ k, k < n → hit a n v r k → f k = true
  part : ∀ i k, i < n → k < n → D i k → hit a n v r k → ent a i k ≠ -1000000000000000 → f i = true
theorem RIn.start {a : List (List Int)} {n v : Nat} {f : Nat → Bool} (h : ∀ i, i < n → f i = decide (i = v)) : RIn a n v 0 (fun _ _ => False) f := by
  refine ⟨fun i hi e => ?_, fun k hk e => ?_, fun i k _ _ hD => hD.elim⟩
  · rw [h i hi, decide_eq_true_iff] at e; exact .inl e.symm
  · rcases e with e | ⟨m, e, _⟩
    · rw [h k hk, e]; simp
    · omega
theorem RIn.congr {a : List (List Int)} {n v r : Nat} {D D' : Nat → Nat → Prop} {f : Nat → Bool} (h : RIn a n v r D f) (hD : ∀ i k, i < n → k < n → D' i k → D i k) : RIn a n v r D' f :=
  ⟨h.sound, h.has, fun i k hi hk e => h.part i k hi hk (hD i k hi hk e)⟩
theorem RIn.no {a : List (List Int)} {n v r : Nat} {D D' : Nat → Nat → Prop} {f : Nat → Bool} (h : RIn a n v r D f) {i k : Nat} (hno : ¬ (f k = true ∧ ent a i k ≠ -1000000000000000))
    (hD : ∀ i' k', i' < n → k' < n → D' i' k' → D i' k' ∨ (i' = i ∧ k' = k)) : RIn a n v r D' f := by
  refine ⟨h.sound, h.has, fun i' k' hi hk e hh ha => ?_⟩
  rcases hD i' k' hi hk e with e | ⟨rfl, rfl⟩
  · exact h.part i' k' hi hk e hh ha
  · exact absurd ⟨h.has k' hk hh, ha⟩ hno
theorem RIn.yes {a : List (List Int)} {n v r : Nat} {D D' : Nat → Nat → Prop} {f f' : Nat → Bool} (h : RIn a n v r D f) {i k : Nat} (hk : k < n) (h1 : f k = true) (h2 : ent a i k ≠ -1000000000000000)
    (hf : ∀ j, f' j = if j = i then true else f j) (hD : ∀ i' k', i' < n → k' < n → D' i' k' → D i' k' ∨ (i' = i ∧ k' = k)) : RIn a n v r D' f' := by
  have hup : ∀ j, f j = true → f' j = true := fun j e => by rw [hf]; split; rfl; exact e
  refine ⟨fun j hj e => ?_, fun j hj e => hup j (h.has j hj e), fun i' k' hi hk' e hh ha => ?_⟩
  · rw [hf] at e
    split at e
    · rename_i ej; subst ej; exact (h.sound k hk h1).ext hk h2
    · exact h.sound j hj e
  · rcases hD i' k' hi hk' e with e | ⟨rfl, rfl⟩
    · exact hup _ (h.part i' k' hi hk' e hh ha)
    · rw [hf, if_pos rfl]
theorem RIn.next {a : List (List Int)} {n v r : Nat} {D : Nat → Nat → Prop} {f : Nat → Bool} (h : RIn a n v r D f) (hD : ∀ i k, i < n → k < n → D i k) (hv : v < n) : RIn a n v (r + 1) (fun _ _ => False) f := by
  refine ⟨h.sound, fun i hi e => ?_, fun i k _ _ hD => hD.elim⟩
  rcases e with e | ⟨m, g1, g2, g3⟩
  · exact h.has i hi (.inl e)
  · cases m with
    | nil => exact h.part i v hi hv (hD i v hi hv) (.inl rfl) (zA_ne.1 g3)
    | cons k m =>
      have hk := lo_cons.1 g2
      simp only [List.length_cons] at g1
      exact h.part i k hi hk.1 (hD i k hi hk.1) (.inr ⟨m, by omega, hk.2, g3.2⟩) (zA_ne.1 g3.1)
theorem RIn.done {a : List (List Int)} {n v : Nat} {D : Nat → Nat → Prop} {f : Nat → Bool} (h : RIn a n v n D f) (hv : v < n) {i : Nat} (hi : i < n) : f i = wB a n v i := by
  rw [Bool.eq_iff_iff, wB_iff hv hi]
  refine ⟨h.sound i hi, fun g => ?_⟩
  rcases g.short hi with rfl | ⟨m, g1, g2, g3⟩
  · exact h.has _ hi (.inl rfl)
  · exact h.has i hi (.inr ⟨m, g1, g2, g3⟩)
end Go.Proofs.Ytljchmkoafahgaa
