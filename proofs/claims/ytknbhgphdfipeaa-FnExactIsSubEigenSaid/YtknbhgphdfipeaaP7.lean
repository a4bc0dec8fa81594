/- Plain law: products distribute over sums. No program in sight. -/
import Derived.Test.YtknbhgphdfipeaaP5
namespace Go.Proofs.Ytknbhgphdfipeaa
set_option linter.unusedVariables false

theorem sumI_app (xs : List Int) (y : Int) : sumI (xs ++ [y]) = max (sumI xs) y := by
  unfold sumI; rw [List.foldl_append]; rfl
theorem sumI_val {xs : List Int} (h : allV xs = true) (k : Nat) (hk : k ≤ xs.length) : isVal (sumI (xs.take k)) = true := by
  induction k with
  | zero => show isVal (-1000000000000000) = true; decide
  | succ k ih =>
    have h1 := ih (by omega)
    have h2 := allV_iff.1 h k (by omega)
    rw [sumI_snoc xs k (by omega)]
    rw [isVal_iff] at h1 h2 ⊢
    omega
/-- what a product with a value is, if it is one -/
theorem prodV_val {a b : Int} (ha : isVal a = true) (hb : isVal b = true) (h : (prodV a b).2 = 0) : (prodV a b).1 = times a b ∧ isVal (times a b) = true := by
  unfold prodV chkV at h ⊢
  rw [ha, hb] at h ⊢
  simp only [Bool.and_self, if_true] at h ⊢
  split
  · rename_i e; exact ⟨rfl, e⟩
  · rename_i e; rw [if_neg e] at h; simp at h
theorem prodV_code {a b : Int} (ha : isVal a = true) (hb : isVal b = true) (h : (prodV a b).2 ≠ 0) : (prodV a b).2 = 3 := by
  unfold prodV chkV at h ⊢
  rw [ha, hb] at h ⊢
  simp only [Bool.and_self, if_true] at h ⊢
  split
  · rename_i e; rw [if_pos e] at h; exact absurd rfl h
  · rfl
theorem times_mx {a x y : Int} (ha : isVal a = true) (hx : isVal x = true) (hy : isVal y = true) : times a (max x y) = max (times a x) (times a y) := by
  rw [isVal_iff] at ha hx hy
  unfold times
  rcases ha with ha | ha <;> rcases hx with hx | hx <;> rcases hy with hy | hy
  all_goals
    by_cases hxy : x ≤ y
    · rw [show max x y = y by omega]; split <;> split <;> omega
    · rw [show max x y = x by omega]; split <;> split <;> omega
def eachV (a : Int) (xs : List Int) (k : Nat) : List Int := mkRow k fun i => (prodV a (nth xs i)).1
theorem dist_law {a : Int} {xs : List Int} (ha : isVal a = true) (hx : allV xs = true) (h : ∀ i, i < xs.length → (prodV a (nth xs i)).2 = 0) (k : Nat) (hk : k ≤ xs.length) :
    times a (sumI (xs.take k)) = sumI (eachV a xs k) ∧ isVal (sumI (eachV a xs k)) = true ∧ allV (eachV a xs k) = true := by
  induction k with
  | zero =>
    refine ⟨?_, show isVal (-1000000000000000) = true by decide, rfl⟩
    show times a (-1000000000000000) = -1000000000000000
    unfold times; simp
  | succ k ih =>
    obtain ⟨h1, h2, h3⟩ := ih (by omega)
    have hv := allV_iff.1 hx k (by omega)
    obtain ⟨p1, p2⟩ := prodV_val ha hv (h k (by omega))
    have e : eachV a xs (k + 1) = eachV a xs k ++ [times a (nth xs k)] := by unfold eachV; rw [mkRow_succ, p1]
    rw [sumI_snoc xs k (by omega), times_mx ha (sumI_val hx k (by omega)) hv, e, sumI_app, h1]
    refine ⟨rfl, ?_, ?_⟩
    · rw [isVal_iff] at h2 p2 ⊢; omega
    · unfold allV at h3 ⊢; rw [List.all_append, h3]; simp [p2]
theorem values_law {a : Int} {xs : List Int} (ha : isVal a = true) (hs : (sumV xs).2 = 0) (h : ∀ i, i < xs.length → (prodV a (nth xs i)).2 = 0) :
    (prodV a (sumV xs).1).2 = 0 ∧ (sumV (eachV a xs xs.length)).2 = 0 ∧ (prodV a (sumV xs).1).1 = (sumV (eachV a xs xs.length)).1 := by
  have hx : allV xs = true ∧ ¬ 200 < xs.length := by
    unfold sumV at hs
    split at hs
    · simp at hs
    · split at hs
      · rename_i h1 h2; exact ⟨h2, h1⟩
      · simp at hs
  obtain ⟨h1, h2, h3⟩ := dist_law ha hx.1 h xs.length (Nat.le_refl _)
  rw [List.take_length] at h1
  have hsv := sumI_val hx.1 xs.length (Nat.le_refl _)
  rw [List.take_length] at hsv
  have e1 : sumV xs = (sumI xs, 0) := by unfold sumV; rw [if_neg hx.2, if_pos hx.1]
  have e2 : sumV (eachV a xs xs.length) = (sumI (eachV a xs xs.length), 0) := by
    unfold sumV; rw [if_neg (by unfold eachV; rw [mkRow_len]; exact hx.2), if_pos h3]
  have e3 : prodV a (sumI xs) = (times a (sumI xs), 0) := by
    unfold prodV chkV; rw [ha, hsv]; simp only [Bool.and_self, if_true]; rw [h1, if_pos h2]
  rw [e1, e2]; simp only
  rw [e3]; exact ⟨rfl, trivial, h1⟩
theorem values_unit {a : Int} (ha : isVal a = true) : prodV a 0 = (a, 0) := by
  unfold prodV chkV
  have h0 : isVal 0 = true := by decide
  rw [ha, h0]; simp only [Bool.and_self, if_true]
  have e : times a 0 = a := by
    rw [isVal_iff] at ha; unfold times; split <;> omega
  rw [e, if_pos ha]
theorem values_bottom {a : Int} (ha : isVal a = true) : sumV [a, -1000000000000000] = (a, 0) := by
  unfold sumV
  have hv : allV [a, -1000000000000000] = true := by
    have : isVal (-1000000000000000) = true := by decide
    simp [allV, ha, this]
  rw [if_neg (by simp), if_pos hv]
  have hb := isVal_bd ha
  have : sumI [a, -1000000000000000] = a := by unfold sumI; simp only [List.foldl]; omega
  rw [this]
end Go.Proofs.Ytknbhgphdfipeaa
