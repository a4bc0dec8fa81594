/- Plain law: no cycle has a mean above the greatest. No program is entered. -/
import Derived.Test.YtokhkpbebimohaaK14
import Derived.Test.YtokhkpbebimohaaE10
namespace Go.Proofs.Ytokhkpbebimohaa
set_option linter.unusedVariables false

/-- a closed walk weighs at most what the greatest mean says -/
theorem walk_mean {x : List (List Int)} (h : isSq x = true) {R : Int × Int} (hb : bestO x x.length = some R) {v : Nat} {k : List Nat} (hv : v < x.length) (hk : lo x.length k) (hw : wk (ent x) v k v) :
    R.2 * wt (ent x) v k v ≤ R.1 * ((k.length : Int) + 1) := by
  obtain ⟨⟨b1, b2⟩, hN, -⟩ := best_facts h hb
  have hdR : -1000000 ≤ R.2 ∧ R.2 ≤ 1000000 := by omega
  have hlo : lo x.length (v :: (k ++ [v])) := lo_cons.2 ⟨hv, lo_app.2 ⟨hk, lo_cons.2 ⟨hv, lo_nil _⟩⟩⟩
  have s2 := shift_walk h b1 hdR (k ++ [v]) v hlo
  have hx := (wk_fk _ _ _ _).1 hw
  have hp := hN v k hv hk ((wk_fk _ _ _ _).2 (s2.1.2 hx))
  rw [wt_fw, s2.2 hx] at hp
  rw [wt_fw]
  have el : (((k ++ [v]).length : Nat) : Int) = (k.length : Int) + 1 := by rw [List.length_append, List.length_singleton]; omega
  rw [el] at hp
  omega
/-- the arcs of a cycle, walked from place k - 1 back to the last node -/
theorem cyc_walk {x : List (List Int)} {xs : List Int} : ∀ (k : Nat) (t : Int), k ≤ xs.length → cycO x xs (k + 1) = some t →
    ∃ m, lo x.length m ∧ (nth xs k).toNat < x.length ∧ wk (ent x) (nth xs k).toNat m (before xs 0).toNat ∧ wt (ent x) (nth xs k).toNat m (before xs 0).toNat = t ∧ m.length = k := by
  intro k
  induction k with
  | zero =>
    intro t _ h
    simp only [cycO] at h
    split at h
    · rename_i hs
      unfold stepOk at hs
      simp only [Bool.and_eq_true, Bool.not_eq_true', beq_eq_false_iff_ne] at hs
      simp only [Option.some.injEq] at h
      obtain ⟨⟨⟨h1, h2⟩, h3⟩, h4⟩ := hs
      have := inR_iff.1 h1
      exact ⟨[], lo_nil _, by omega, h4, by show ent x _ _ = t; omega, rfl⟩
    · cases h
  | succ k ih =>
    intro t hk h
    rw [cycO] at h
    split at h
    · cases h
    · rename_i s hs
      obtain ⟨m, m1, m2, m3, m4, m5⟩ := ih s (by omega) hs
      split at h
      · rename_i hs
        unfold stepOk at hs
        simp only [Bool.and_eq_true, Bool.not_eq_true', beq_eq_false_iff_ne] at hs
        simp only [Option.some.injEq] at h
        obtain ⟨⟨⟨h1, h2⟩, h3⟩, h4⟩ := hs
        have hb : before xs (k + 1) = nth xs k := by unfold before; rw [if_neg (by omega)]; rfl
        rw [hb] at h4 h
        have := inR_iff.1 h1
        exact ⟨(nth xs k).toNat :: m, lo_cons.2 ⟨m2, m1⟩, by omega, ⟨h4, m3⟩, by show ent x _ _ + wt _ _ _ _ = t; rw [m4]; omega, by simp [m5]⟩
      · cases h
theorem cycle_walk {x : List (List Int)} {xs : List Int} {t : Int} (h : cycleO x xs = some t) : ∃ v m, v < x.length ∧ lo x.length m ∧ wk (ent x) v m v ∧ wt (ent x) v m v = t ∧ m.length + 1 = xs.length := by
  unfold cycleO at h
  split at h
  · cases h
  · rename_i hne
    obtain ⟨k, hk⟩ : ∃ k, xs.length = k + 1 := ⟨xs.length - 1, by omega⟩
    rw [hk] at h
    obtain ⟨m, m1, m2, m3, m4, m5⟩ := cyc_walk k t (by omega) h
    have e : before xs 0 = nth xs k := by unfold before; rw [if_pos rfl, hk]; rfl
    rw [e] at m3 m4
    exact ⟨_, m, m2, m1, m3, m4, by omega⟩
theorem mean_facts {x : List (List Int)} {xs : List Int} (h : (meanV x xs).2 = 0) : (tabV x).2 = 3 ∨ ((tabV x).2 = 0 ∧ (cmpRV (meanV x xs).1 (tabV x).1).2 = 0 ∧ (cmpRV (meanV x xs).1 (tabV x).1).1 ≤ 0) := by
  have hs : isSq x = true := by
    cases e : isSq x
    · unfold meanV at h; rw [e] at h; simp at h
    · rfl
  cases hc : cycleO x xs with
  | none => unfold meanV at h; rw [hs, hc] at h; simp [optR] at h
  | some t =>
    have hM : isRat (ratOf t xs.length) = true := by
      cases e : isRat (ratOf t xs.length)
      · unfold meanV at h; rw [hs, hc] at h; simp [optR, chkR, e] at h
      · rfl
    have hm : (meanV x xs).1 = ratOf t xs.length := by unfold meanV; rw [hs, hc]; simp [optR, chkR, hM]
    obtain ⟨v, k, w1, w2, w3, w4, w5⟩ := cycle_walk hc
    cases hb : bestO x x.length with
    | none =>
      rcases best_ex hs with ⟨_, hno⟩ | ⟨f, m, _, h2, _⟩
      · obtain ⟨z, m, g1, g2, g3, g4, _⟩ := simple_cycle (n := x.length) (A := ent x) (q := 0) (p := -1) k.length v k (Nat.le_refl _) (lo_cons.2 ⟨w1, w2⟩) ((wk_fk _ _ _ _).1 w3) (by omega)
        exact absurd ⟨g1, g2, g3, g4⟩ (hno z m)
      · rw [hb] at h2; cases h2
    | some R =>
      have hR := walk_mean hs hb w1 w2 w3
      have ht : tabV x = chkR R := by unfold tabV; rw [hs, hb]; rfl
      obtain ⟨⟨b1, b2⟩, -⟩ := best_facts hs hb
      rw [ht, hm]
      unfold chkR
      by_cases hr : isRat R = true
      · right
        rw [if_pos hr]
        have hcm : cmpRV (ratOf t xs.length) R = (cmpR (ratOf t xs.length) R, 0) := by unfold cmpRV; rw [hM, hr]; rfl
        rw [hcm]
        refine ⟨rfl, rfl, ?_⟩
        refine Int.not_lt.1 fun hc => ?_
        rw [cmpR_gt] at hc
        refine hc ?_
        show (ratOf t xs.length).1 * R.2 ≤ R.1 * (ratOf t xs.length).2
        have hL : 0 < (xs.length : Int) := by omega
        obtain ⟨z1, z2, -⟩ := ratOf_low (a := t) hL
        rw [w4, show (k.length : Int) + 1 = (xs.length : Int) by omega] at hR
        generalize ratOf t xs.length = M at *
        generalize (xs.length : Int) = L at *
        refine mul_canc hL ?_
        have e1 : M.1 * R.2 * L = (R.2 * t) * M.2 := by
          have : M.1 * R.2 * L = (M.1 * L) * R.2 := by rw [Int.mul_assoc, Int.mul_comm R.2 L, ← Int.mul_assoc]
          rw [this, z1, Int.mul_comm (t * M.2) R.2, ← Int.mul_assoc]
        have e2 : R.1 * M.2 * L = (R.1 * L) * M.2 := by rw [Int.mul_assoc, Int.mul_comm M.2 L, ← Int.mul_assoc]
        rw [e1, e2]
        exact Int.mul_le_mul_of_nonneg_right hR (by omega)
      · left; rw [if_neg hr]
end Go.Proofs.Ytokhkpbebimohaa
