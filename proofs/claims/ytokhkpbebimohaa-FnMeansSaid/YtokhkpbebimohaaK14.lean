/- Plain law: the mean and the potentials of the shifted matrix. No program is entered. -/
import Derived.Test.YtokhkpbebimohaaGL
namespace Go.Proofs.Ytokhkpbebimohaa
set_option linter.unusedVariables false

theorem mul_canc {a b c : Int} (hc : 0 < c) (h : a * c ≤ b * c) : a ≤ b := Int.le_of_mul_le_mul_right h hc
/-- the shifted matrix has no positive cycle if and only if no cycle's mean is above the ratio -/
theorem star_mean {x : List (List Int)} (h : isSq x = true) {R r : Int × Int} (hb : bestO x x.length = some R) (h1 : -1000000 ≤ r.1 ∧ r.1 ≤ 1000000) (h2 : 1 ≤ r.2 ∧ r.2 ≤ 1000000) :
    starB (ent (shiftM x r.1 r.2)) x.length = true ↔ R.1 * r.2 ≤ r.1 * R.2 := by
  obtain ⟨⟨b1, b2⟩, hN, f, m, hc, hR⟩ := best_facts h hb
  have hn : -100000000 ≤ r.1 ∧ r.1 ≤ 100000000 := by omega
  have hd : -1000000 ≤ r.2 ∧ r.2 ≤ 1000000 := by omega
  have hnR : -100000000 ≤ R.1 ∧ R.1 ≤ 100000000 := b1
  have hdR : -1000000 ≤ R.2 ∧ R.2 ≤ 1000000 := by omega
  rw [starB_iff (shift_abdW h hn hd)]
  constructor
  · intro hP
    have z := mn_zero (x := x) (f := f) (m := m)
    rw [hR] at z
    have hw := (shift_walk h hn hd (m ++ [f]) f (by
      refine lo_cons.2 ⟨(lo_cons.1 hc.lo).1, lo_app.2 ⟨(lo_cons.1 hc.lo).2, lo_cons.2 ⟨(lo_cons.1 hc.lo).1, lo_nil _⟩⟩⟩))
    have hk := hw.1.2 hc.fk
    have hp := hP f m (lo_cons.1 hc.lo).1 (lo_cons.1 hc.lo).2 ((wk_fk _ _ _ _).2 hk)
    rw [wt_fw, hw.2 hc.fk] at hp
    have el : (((m ++ [f]).length : Nat) : Int) = (m.length : Int) + 1 := by rw [List.length_append, List.length_singleton]; omega
    rw [el] at hp
    have hz := z.1
    unfold cw at hz
    generalize fw (ent x) (f :: (m ++ [f])) = W at *
    have hL : 0 < (m.length : Int) + 1 := by omega
    generalize (m.length : Int) + 1 = L at *
    -- R.1 * L = W * R.2, r.2 * W ≤ r.1 * L
    refine mul_canc hL ?_
    have e1 : R.1 * r.2 * L = (r.2 * W) * R.2 := by
      have : R.1 * r.2 * L = (R.1 * L) * r.2 := by rw [Int.mul_assoc, Int.mul_comm r.2 L, ← Int.mul_assoc]
      rw [this, hz, Int.mul_comm (W * R.2) r.2, ← Int.mul_assoc]
    have e2 : r.1 * R.2 * L = (r.1 * L) * R.2 := by rw [Int.mul_assoc, Int.mul_comm R.2 L, ← Int.mul_assoc]
    rw [e1, e2]
    exact Int.mul_le_mul_of_nonneg_right (by omega) (by omega)
  · intro hle v k hv hk hw
    have hlo : lo x.length (v :: (k ++ [v])) := lo_cons.2 ⟨hv, lo_app.2 ⟨hk, lo_cons.2 ⟨hv, lo_nil _⟩⟩⟩
    have s1 := shift_walk h hn hd (k ++ [v]) v hlo
    have s2 := shift_walk h hnR hdR (k ++ [v]) v hlo
    have hx := s1.1.1 ((wk_fk _ _ _ _).1 hw)
    have hp := hN v k hv hk ((wk_fk _ _ _ _).2 (s2.1.2 hx))
    rw [wt_fw, s2.2 hx] at hp
    rw [wt_fw, s1.2 hx]
    have el : (((k ++ [v]).length : Nat) : Int) = (k.length : Int) + 1 := by rw [List.length_append, List.length_singleton]; omega
    rw [el] at hp ⊢
    have hL : 0 ≤ (k.length : Int) + 1 := by omega
    generalize (k.length : Int) + 1 = L at *
    generalize fw (ent x) (v :: (k ++ [v])) = W at *
    have h3 : r.2 * W ≤ r.1 * L := by
      refine mul_canc (c := R.2) (by omega) ?_
      have e1 : r.2 * W * R.2 = (R.2 * W) * r.2 := by
        rw [Int.mul_comm (r.2 * W) R.2, Int.mul_comm r.2 W, ← Int.mul_assoc]
      have e2 : r.1 * L * R.2 = (r.1 * R.2) * L := by rw [Int.mul_assoc, Int.mul_comm L R.2, ← Int.mul_assoc]
      rw [e1, e2]
      refine Int.le_trans (Int.mul_le_mul_of_nonneg_right (show R.2 * W ≤ R.1 * L by omega) (by omega)) ?_
      rw [Int.mul_assoc, Int.mul_comm L r.2, ← Int.mul_assoc]
      exact Int.mul_le_mul_of_nonneg_right hle hL
    omega
end Go.Proofs.Ytokhkpbebimohaa
