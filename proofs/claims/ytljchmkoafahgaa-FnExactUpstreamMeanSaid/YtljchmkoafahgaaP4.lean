/- Plain lists: a matrix that is filled entry by entry. -/
import Derived.Test.YtljchmkoafahgaaP3
namespace Go.Proofs.Ytljchmkoafahgaa
set_option linter.unusedVariables false

/-- the entries of D hold F, the others I -/
def FillD (F I : Nat → Nat → Int) (m n : Nat) (D : Nat → Nat → Prop) (M : List (List Int)) : Prop :=
  Rect M m n ∧ ∀ i j, i < m → j < n → (D i j → ent M i j = F i j) ∧ (¬ D i j → ent M i j = I i j)
theorem FillD.start {F I : Nat → Nat → Int} {m n : Nat} {M : List (List Int)} {D : Nat → Nat → Prop} (hr : Rect M m n) (h : ∀ i j, i < m → j < n → ent M i j = I i j) (hD : ∀ i j, i < m → j < n → ¬ D i j) : FillD F I m n D M :=
  ⟨hr, fun i j hi hj => ⟨fun e => absurd e (hD i j hi hj), fun _ => h i j hi hj⟩⟩
theorem FillD.step {F I : Nat → Nat → Int} {m n : Nat} {M : List (List Int)} {D D' : Nat → Nat → Prop} (h : FillD F I m n D M) {i j : Nat} (hi : i < m) (hj : j < n)
    (hD : ∀ i' j', i' < m → j' < n → (D' i' j' ↔ D i' j' ∨ (i' = i ∧ j' = j))) : FillD F I m n D' (M.set i ((row M i).set j (F i j))) := by
  obtain ⟨hr, h⟩ := h
  have hk : i < M.length := by rw [hr.1]; exact hi
  refine ⟨rect_set hr hi, fun i' j' hi' hj' => ?_⟩
  rw [ent_set hk (by rw [hr.2 i hi]; exact hj)]
  by_cases e : i' = i ∧ j' = j
  · obtain ⟨rfl, rfl⟩ := e
    rw [if_pos ⟨rfl, rfl⟩]
    exact ⟨fun _ => rfl, fun hn => absurd ((hD i' j' hi' hj').2 (.inr ⟨rfl, rfl⟩)) hn⟩
  · rw [if_neg e]
    refine ⟨fun hd => (h i' j' hi' hj').1 ?_, fun hn => (h i' j' hi' hj').2 fun hd => hn ((hD i' j' hi' hj').2 (.inl hd))⟩
    rcases (hD i' j' hi' hj').1 hd with h | h
    · exact h
    · exact absurd h e
theorem FillD.congr {F I : Nat → Nat → Int} {m n : Nat} {M : List (List Int)} {D D' : Nat → Nat → Prop} (h : FillD F I m n D M) (hD : ∀ i j, i < m → j < n → (D' i j ↔ D i j)) : FillD F I m n D' M :=
  ⟨h.1, fun i j hi hj => ⟨fun e => (h.2 i j hi hj).1 ((hD i j hi hj).1 e), fun e => (h.2 i j hi hj).2 fun d => e ((hD i j hi hj).2 d)⟩⟩
theorem FillD.done {F I : Nat → Nat → Int} {m n : Nat} {M : List (List Int)} {D : Nat → Nat → Prop} (h : FillD F I m n D M) (hD : ∀ i j, i < m → j < n → D i j) : M = mkMat m n F :=
  rect_eq_mk h.1 fun i j hi hj => (h.2 i j hi hj).1 (hD i j hi hj)
theorem FillD.todo {F I : Nat → Nat → Int} {m n : Nat} {M : List (List Int)} {D : Nat → Nat → Prop} (h : FillD F I m n D M) {i j : Nat} (hi : i < m) (hj : j < n) (hD : ¬ D i j) : ent M i j = I i j := (h.2 i j hi hj).2 hD

theorem tot_mkMat (m n : Nat) (f : Nat → Nat → Int) : tot (mkMat m n f) = m * n := by
  induction m with
  | zero => simp [mkMat_zero, tot]
  | succ m ih => rw [mkMat_succ, tot_append, ih]; simp [tot, mkRow_len, Nat.succ_mul]
theorem tot_small {m n : Nat} (f : Nat → Nat → Int) (hm : m ≤ 100) (hn : n ≤ 100) : tot (mkMat m n f) ≤ 1000000 := by
  rw [tot_mkMat]; have := Nat.mul_le_mul hm hn; omega

end Go.Proofs.Ytljchmkoafahgaa
