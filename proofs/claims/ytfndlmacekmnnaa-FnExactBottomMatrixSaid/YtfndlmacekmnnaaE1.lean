/- Contracts of the exported functions that make matrices out of numbers. No condition. -/
import Derived.Test.YtfndlmacekmnnaaM3
import Derived.Test.YtfndlmacekmnnaaM6
namespace Go.Proofs.Ytfndlmacekmnnaa
set_option linter.unusedVariables false
open Go.RowKit

/-- what BottomMatrix returns -/
def botV (m n : Int) : List (List Int) × Int := if inR m 1 10 && inR n 1 10 then (mkMat m.toNat n.toNat fun _ _ => -1000000000000000, 0) else ([], 2)
theorem tot_mkMat (m n : Nat) (f : Nat → Nat → Int) : tot (mkMat m n f) = m * n := by
  induction m with
  | zero => simp [mkMat_zero, tot]
  | succ m ih => rw [mkMat_succ, tot_append, ih]; simp [tot, mkRow_len, Nat.succ_mul]
theorem tot_small {m n : Nat} (f : Nat → Nat → Int) (hm : m ≤ 100) (hn : n ≤ 100) : tot (mkMat m n f) ≤ 1000000 := by
  rw [tot_mkMat]; have := Nat.mul_le_mul hm hn; omega
theorem botV_tot (m n : Int) : tot (botV m n).1 ≤ 1000000 := by
  unfold botV
  split
  · rename_i h
    simp only [Bool.and_eq_true, inR_iff] at h
    exact tot_small _ (by omega) (by omega)
  · simp [tot]
theorem implBottom_c (m n : Int) (w : World) : Calls Try.prog 43 #[.int .i64 m, .int .i64 n] w (GivesM2 w (botV m n).1 (botV m n).2) := by
  cases h1 : inR m 1 10
  · have e : botV m n = ([], 2) := by simp [botV, h1]
    rw [e]; clear e
    go_enter Try.func43, Try.ntmps43
    go_wp2_with fail
    refine (asB h1 (within_c _ _ _ _)).mono ?_
    rintro e w' ⟨rfl, rfl⟩
    go_wp2
    go_ret2
    exact ⟨none, 0, rfl, OwnM.nil _ _, Ext.refl _⟩
  cases h2 : inR n 1 10
  · have e : botV m n = ([], 2) := by simp [botV, h2]
    rw [e]; clear e
    go_enter Try.func43, Try.ntmps43
    go_wp2_with fail
    refine (asB h1 (within_c _ _ _ _)).mono ?_
    rintro e w' ⟨rfl, rfl⟩
    go_wp2_with fail
    refine (asB h2 (within_c _ _ _ _)).mono ?_
    rintro e w' ⟨rfl, rfl⟩
    go_wp2
    go_ret2
    exact ⟨none, 0, rfl, OwnM.nil _ _, Ext.refl _⟩
  · have b1 := inR_iff.1 h1
    have b2 := inR_iff.1 h2
    obtain ⟨m, rfl⟩ := Int.eq_ofNat_of_zero_le (show 0 ≤ m by omega)
    obtain ⟨n, rfl⟩ := Int.eq_ofNat_of_zero_le (show 0 ≤ n by omega)
    have e : botV m n = (mkMat m n fun _ _ => -1000000000000000, 0) := by simp [botV, h1, h2]
    rw [e]; clear e
    go_enter Try.func43, Try.ntmps43
    go_wp2_with fail
    refine (asB h1 (within_c _ _ _ _)).mono ?_
    rintro e w' ⟨rfl, rfl⟩
    go_wp2_with fail
    refine (asB h2 (within_c _ _ _ _)).mono ?_
    rintro e w' ⟨rfl, rfl⟩
    go_wp2_with fail
    refine (bottomMatrix_c m n _ (by omega) (by omega)).mono ?_
    rintro e w' ⟨a, cap, rfl, hO, hE⟩
    go_wp2
    go_ret2
    exact ⟨a, cap, rfl, hO, hE⟩

theorem specBottom_c (m n : Int) (w : World) : Calls Try.prog 42 #[.int .i64 m, .int .i64 n] w (GivesM2 w (botV m n).1 (botV m n).2) := by
  cases h1 : inR m 1 10
  · have e : botV m n = ([], 2) := by simp [botV, h1]
    rw [e]; clear e
    go_enter Try.func42, Try.ntmps42
    go_wp2_with fail
    refine (asB h1 (l01In_c _ _ _ _)).mono ?_
    rintro e w' ⟨rfl, rfl⟩
    go_wp2
    go_ret2
    exact ⟨none, 0, rfl, OwnM.nil _ _, Ext.refl _⟩
  cases h2 : inR n 1 10
  · have e : botV m n = ([], 2) := by simp [botV, h2]
    rw [e]; clear e
    go_enter Try.func42, Try.ntmps42
    go_wp2_with fail
    refine (asB h1 (l01In_c _ _ _ _)).mono ?_
    rintro e w' ⟨rfl, rfl⟩
    go_wp2_with fail
    refine (asB h2 (l01In_c _ _ _ _)).mono ?_
    rintro e w' ⟨rfl, rfl⟩
    go_wp2
    go_ret2
    exact ⟨none, 0, rfl, OwnM.nil _ _, Ext.refl _⟩
  · have b1 := inR_iff.1 h1
    have b2 := inR_iff.1 h2
    obtain ⟨m, rfl⟩ := Int.eq_ofNat_of_zero_le (show 0 ≤ m by omega)
    obtain ⟨n, rfl⟩ := Int.eq_ofNat_of_zero_le (show 0 ≤ n by omega)
    have e : botV m n = (mkMat m n fun _ _ => -1000000000000000, 0) := by simp [botV, h1, h2]
    rw [e]; clear e
    go_enter Try.func42, Try.ntmps42
    go_wp2_with fail
    refine (asB h1 (l01In_c _ _ _ _)).mono ?_
    rintro e w' ⟨rfl, rfl⟩
    go_wp2_with fail
    refine (asB h2 (l01In_c _ _ _ _)).mono ?_
    rintro e w' ⟨rfl, rfl⟩
    go_wp2_with fail
    refine (l02Bottom_c m n _ (by omega) (by omega)).mono ?_
    rintro e w' ⟨a, cap, rfl, hO, hE⟩
    go_wp2
    go_ret2
    exact ⟨a, cap, rfl, hO, hE⟩

end Go.Proofs.Ytfndlmacekmnnaa
