/- The walks of the laws over drawn numbers. Conditions: the code lies in memory. -/
import Derived.Test.YtfndlmacekmnnaaD1
import Derived.Test.YtfndlmacekmnnaaS1
namespace Go.Proofs.Ytfndlmacekmnnaa
set_option linter.unusedVariables false
open Go.RowKit

theorem pow_step {a n : Int} (h : (powV a n).2 = 0) : (0 ≤ n ∧ n ≤ 1000000) ∧ (n ≠ 1000000 → powV a (n + 1) = prodV (powV a n).1 a) := by
  unfold powV at h
  by_cases h1 : isVal a = true
  · by_cases h2 : inR n 0 1000000 = true
    · obtain ⟨h3, h4⟩ := inR_iff.1 h2
      refine ⟨⟨h3, h4⟩, fun hn => ?_⟩
      have h5 : inR (n + 1) 0 1000000 = true := inR_iff.2 ⟨by omega, by omega⟩
      have h6 : n + 1 ≠ 0 := by omega
      simp only [h1, h2, if_true] at h
      by_cases h0 : n = 0
      · subst h0
        have z : isVal 0 = true := rfl
        simp only [powV, h1, h2, h5, prodV, if_true, z, Bool.and_self, times]
        by_cases hB : a = -1000000000000000
        · subst hB; decide
        · simp [hB]
      · by_cases hB : a = -1000000000000000
        · subst hB
          simp [powV, h2, h5, h6, h0, prodV, times]
          decide
        · simp only [h0, hB, if_false] at h
          have hv : isVal (a * n) = true := by
            unfold chkV at h; split at h
            · assumption
            · simp at h
          have ha := (isVal_iff.1 h1).resolve_left hB
          have hm : a * n ≠ -1000000000000000 := by
            have h7 : -1000000 * 1000000 ≤ a * n := by
              have h8 : a * n ≥ -1000000 * n := Int.mul_le_mul_of_nonneg_right ha.1 h3
              omega
            omega
          have h8 : a * (n + 1) = a * n + a := by rw [Int.mul_add, Int.mul_one]
          simp [powV, h1, h2, h5, h6, h0, hB, prodV, times, h8, chkV, hv, hm]
    · simp [h1, h2] at h
  · simp [h1] at h

theorem quot_back {a b : Int} (h : (quotV a b).2 = 0) : (prodV (quotV a b).1 b).2 = 0 ∧ (prodV (quotV a b).1 b).1 = a := by
  unfold quotV at h
  by_cases h1 : (isVal a && isVal b) = true
  · obtain ⟨ha, hb⟩ := Bool.and_eq_true_iff.1 h1
    by_cases h2 : b = -1000000000000000
    · subst h2; simp [ha] at h; revert h; simp [show isVal (-1000000000000000) = true from rfl]
    · by_cases h3 : a = -1000000000000000
      · subst h3
        have z : isVal (-1000000000000000) = true := rfl
        simp [quotV, hb, h2, prodV, times, z, chkV]
      · have ha' := (isVal_iff.1 ha).resolve_left h3
        have hb' := (isVal_iff.1 hb).resolve_left h2
        simp only [h1, h2, h3, if_true, if_false] at h
        have hv : isVal (a - b) = true := by
          unfold chkV at h; split at h
          · assumption
          · simp at h
        have hm : a - b ≠ -1000000000000000 := by omega
        have hs : a - b + b = a := by omega
        simp [quotV, ha, hb, h2, h3, prodV, times, chkV, hv, hm, hs]
  · simp [h1] at h

set_option maxHeartbeats 1000000 in
theorem FnPowers_walk (ca : Option Addr) (cc : Nat) (bs : List Int) (w : World) (h : CodeAt w ca bs) :
    Calls Try.prog 14 #[.slice ca bs.length cc] w fun e w' => e = .returned (.bool true) ∧ Ext w w' := by
  go_enter Try.func14, Try.ntmps14
  go_wp2_with fail
  refine (big_c _ _ _ _ (by have := h.1; omega)).mono ?_
  rintro e w' ⟨t, rfl, rfl⟩
  cases t
  · go_wp2_with fail
    refine (DrawPowerOf_c _ _ _ _ h).mono ?_
    rintro e w1 ⟨a, n, rfl, ha, hn, hE⟩
    obtain ⟨ha1, ha2⟩ := ha
    obtain ⟨hn1, hn2⟩ := hn
    go_wp2_with fail
    refine (powerOf_c _ _ _).mono ?_; rintro e w' ⟨rfl, rfl⟩
    go_wp2_with fail
    refine (sPowerOf_c _ _ _).mono ?_; rintro e w' ⟨rfl, rfl⟩
    by_cases hb : (powV a n).2 = 0
    · obtain ⟨⟨hn3, hn4⟩, hP⟩ := pow_step hb
      go_wp2_with fail
      refine (powerOf_c _ _ _).mono ?_; rintro e w' ⟨rfl, rfl⟩
      go_wp2_with fail
      refine (productOf_c _ _ _).mono ?_; rintro e w' ⟨rfl, rfl⟩
      by_cases hm : n = 1000000
      · go_wp2
        go_ret
        exact ⟨rfl, hE⟩
      · have hQ := hP hm
        have e1 : (powV a (n + 1)).1 = (prodV (powV a n).1 a).1 := by rw [hQ]
        have e2 : (powV a (n + 1)).2 = (prodV (powV a n).1 a).2 := by rw [hQ]
        clear hP hQ
        go_wp2
        all_goals go_ret
        all_goals exact ⟨rfl, hE⟩
    · go_wp2
      go_ret
      exact ⟨rfl, hE⟩
  · go_wp2
    go_ret
    exact ⟨rfl, Ext.refl _⟩

end Go.Proofs.Ytfndlmacekmnnaa
