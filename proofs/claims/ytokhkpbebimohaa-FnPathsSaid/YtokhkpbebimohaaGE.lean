/- Several texts in one: E1 E2 E3. -/
import Derived.Test.YtokhkpbebimohaaGM
import Derived.Test.YtokhkpbebimohaaGN
import Derived.Test.YtokhkpbebimohaaGP
/- Contracts of the exported functions that make matrices out of numbers. No condition. -/
namespace Go.Proofs.Ytokhkpbebimohaa
set_option linter.unusedVariables false
open Go.RowKit

/-- what BottomMatrix returns -/
def botV (m n : Int) : List (List Int) × Int := if inR m 1 10 && inR n 1 10 then (mkMat m.toNat n.toNat fun _ _ => -1000000000000000, 0) else ([], 2)
theorem botV_tot (m n : Int) : tot (botV m n).1 ≤ 1000000 := by
  unfold botV
  split
  · rename_i h
    simp only [Bool.and_eq_true, inR_iff] at h
    exact tot_small _ (by omega) (by omega)
  · simp [tot]
theorem implBottom_c (m n : Int) (w : World) : Calls Try.prog 25 #[.int .i64 m, .int .i64 n] w (GivesM2 w (botV m n).1 (botV m n).2) := by
  cases h1 : inR m 1 10
  · have e : botV m n = ([], 2) := by simp [botV, h1]
    rw [e]; clear e
    go_enter Try.func25, Try.ntmps25
    go_wp2_with fail
    refine (asB h1 (within_c _ _ _ _)).mono ?_
    rintro e w' ⟨rfl, rfl⟩
    go_wp2
    go_ret2
    exact ⟨none, 0, rfl, OwnM.nil _ _, Ext.refl _⟩
  cases h2 : inR n 1 10
  · have e : botV m n = ([], 2) := by simp [botV, h2]
    rw [e]; clear e
    go_enter Try.func25, Try.ntmps25
    go_wp2_with fail
    refine (asB h1 (within_c _ _ _ _)).mono ?_
    rintro e w' ⟨rfl, rfl⟩
    go_wp2_with fail
    refine (asB h2 (within_c _ _ _ _)).mono ?_
    rintro e w' ⟨rfl, rfl⟩
    go_wp2
    go_ret2
    exact ⟨none, 0, rfl, OwnM.nil _ _, Ext.refl _⟩
  · have b1 := inR_iff.1 h1
    have b2 := inR_iff.1 h2
    obtain ⟨m, rfl⟩ := Int.eq_ofNat_of_zero_le (show 0 ≤ m by omega)
    obtain ⟨n, rfl⟩ := Int.eq_ofNat_of_zero_le (show 0 ≤ n by omega)
    have e : botV m n = (mkMat m n fun _ _ => -1000000000000000, 0) := by simp [botV, h1, h2]
    rw [e]; clear e
    go_enter Try.func25, Try.ntmps25
    go_wp2_with fail
    refine (asB h1 (within_c _ _ _ _)).mono ?_
    rintro e w' ⟨rfl, rfl⟩
    go_wp2_with fail
    refine (asB h2 (within_c _ _ _ _)).mono ?_
    rintro e w' ⟨rfl, rfl⟩
    go_wp2_with fail
    refine (bottomMatrix_c m n _ (by omega) (by omega)).mono ?_
    rintro e w' ⟨a, cap, rfl, hO, hE⟩
    go_wp2
    go_ret2
    exact ⟨a, cap, rfl, hO, hE⟩

theorem specBottom_c (m n : Int) (w : World) : Calls Try.prog 26 #[.int .i64 m, .int .i64 n] w (GivesM2 w (botV m n).1 (botV m n).2) := by
  cases h1 : inR m 1 10
  · have e : botV m n = ([], 2) := by simp [botV, h1]
    rw [e]; clear e
    go_enter Try.func26, Try.ntmps26
    go_wp2_with fail
    refine (asB h1 (l01In_c _ _ _ _)).mono ?_
    rintro e w' ⟨rfl, rfl⟩
    go_wp2
    go_ret2
    exact ⟨none, 0, rfl, OwnM.nil _ _, Ext.refl _⟩
  cases h2 : inR n 1 10
  · have e : botV m n = ([], 2) := by simp [botV, h2]
    rw [e]; clear e
    go_enter Try.func26, Try.ntmps26
    go_wp2_with fail
    refine (asB h1 (l01In_c _ _ _ _)).mono ?_
    rintro e w' ⟨rfl, rfl⟩
    go_wp2_with fail
    refine (asB h2 (l01In_c _ _ _ _)).mono ?_
    rintro e w' ⟨rfl, rfl⟩
    go_wp2
    go_ret2
    exact ⟨none, 0, rfl, OwnM.nil _ _, Ext.refl _⟩
  · have b1 := inR_iff.1 h1
    have b2 := inR_iff.1 h2
    obtain ⟨m, rfl⟩ := Int.eq_ofNat_of_zero_le (show 0 ≤ m by omega)
    obtain ⟨n, rfl⟩ := Int.eq_ofNat_of_zero_le (show 0 ≤ n by omega)
    have e : botV m n = (mkMat m n fun _ _ => -1000000000000000, 0) := by simp [botV, h1, h2]
    rw [e]; clear e
    go_enter Try.func26, Try.ntmps26
    go_wp2_with fail
    refine (asB h1 (l01In_c _ _ _ _)).mono ?_
    rintro e w' ⟨rfl, rfl⟩
    go_wp2_with fail
    refine (asB h2 (l01In_c _ _ _ _)).mono ?_
    rintro e w' ⟨rfl, rfl⟩
    go_wp2_with fail
    refine (l02Bottom_c m n _ (by omega) (by omega)).mono ?_
    rintro e w' ⟨a, cap, rfl, hO, hE⟩
    go_wp2
    go_ret2
    exact ⟨a, cap, rfl, hO, hE⟩

end Go.Proofs.Ytokhkpbebimohaa

/- Contracts of exported functions over one or two matrices. Conditions: what is read lies in own memory; no other. -/
namespace Go.Proofs.Ytokhkpbebimohaa
set_option linter.unusedVariables false
open Go.RowKit

def unitV (n : Int) : List (List Int) × Int := if inR n 1 10 then (mkMat n.toNat n.toNat unitF, 0) else ([], 2)
theorem unitV_tot (n : Int) : tot (unitV n).1 ≤ 1000000 := by
  unfold unitV
  split
  · rename_i h
    simp only [inR_iff] at h
    exact tot_small _ (by omega) (by omega)
  · simp [tot]
theorem implUnit_c (n : Int) (w : World) : Calls Try.prog 22 #[.int .i64 n] w (GivesM2 w (unitV n).1 (unitV n).2) := by
  cases h1 : inR n 1 10
  · have e : unitV n = ([], 2) := by simp [unitV, h1]
    rw [e]; clear e
    go_enter Try.func22, Try.ntmps22
    go_wp2_with fail
    refine (asB h1 (within_c _ _ _ _)).mono ?_
    rintro e w' ⟨rfl, rfl⟩
    go_wp2
    go_ret2
    exact ⟨none, 0, rfl, OwnM.nil _ _, Ext.refl _⟩
  · have b1 := inR_iff.1 h1
    obtain ⟨n, rfl⟩ := Int.eq_ofNat_of_zero_le (show 0 ≤ n by omega)
    have e : unitV n = (mkMat n n unitF, 0) := by simp [unitV, h1]
    rw [e]; clear e
    go_enter Try.func22, Try.ntmps22
    go_wp2_with fail
    refine (asB h1 (within_c _ _ _ _)).mono ?_
    rintro e w' ⟨rfl, rfl⟩
    go_wp2_with fail
    refine (unitMatrix_c n _ (by omega)).mono ?_
    rintro e w' ⟨a, cap, rfl, hO, hE⟩
    go_wp2
    go_ret2
    exact ⟨a, cap, rfl, hO, hE⟩

theorem specUnit_c (n : Int) (w : World) : Calls Try.prog 23 #[.int .i64 n] w (GivesM2 w (unitV n).1 (unitV n).2) := by
  cases h1 : inR n 1 10
  · have e : unitV n = ([], 2) := by simp [unitV, h1]
    rw [e]; clear e
    go_enter Try.func23, Try.ntmps23
    go_wp2_with fail
    refine (asB h1 (l01In_c _ _ _ _)).mono ?_
    rintro e w' ⟨rfl, rfl⟩
    go_wp2
    go_ret2
    exact ⟨none, 0, rfl, OwnM.nil _ _, Ext.refl _⟩
  · have b1 := inR_iff.1 h1
    obtain ⟨n, rfl⟩ := Int.eq_ofNat_of_zero_le (show 0 ≤ n by omega)
    have e : unitV n = (mkMat n n unitF, 0) := by simp [unitV, h1]
    rw [e]; clear e
    go_enter Try.func23, Try.ntmps23
    go_wp2_with fail
    refine (asB h1 (l01In_c _ _ _ _)).mono ?_
    rintro e w' ⟨rfl, rfl⟩
    go_wp2_with fail
    refine (l02Unit_c n _ (by omega)).mono ?_
    rintro e w' ⟨a, cap, rfl, hO, hE⟩
    go_wp2
    go_ret2
    exact ⟨a, cap, rfl, hO, hE⟩

theorem sIsMatrixE_c (a : Option Addr) (cap : Nat) (m : List (List Int)) (w : World) (hm : MatAt w a m) :
    Calls Try.prog 80 #[.slice a m.length cap] w fun e w' => e = .returned (.bool (isMat m)) ∧ Ext w w' := (sIsMatrix_c a cap m w hm).mono fun _ _ ⟨h, q⟩ => ⟨h, q.ext⟩

end Go.Proofs.Ytokhkpbebimohaa

/- Contracts of MultiplyMatrices and TimesVector, the program's and the reference's. No condition. -/
namespace Go.Proofs.Ytokhkpbebimohaa
set_option linter.unusedVariables false
set_option linter.unusedSimpArgs false
open Go.RowKit

theorem OwnI.oneWay {w : World} {B : Nat} {a : Option Addr} {n cap : Nat} {xs : List Int} (h : OwnI w B (.slice a n cap) xs) : n = xs.length := h.len

set_option maxHeartbeats 400000 in
theorem implMul_c (a b : Option Addr) (ca cb : Nat) (x y : List (List Int)) (w : World) (hx : MatAt w a x) (hy : MatAt w b y) : Calls Try.prog 29 #[.slice a x.length ca, .slice b y.length cb] w (GivesM2 w (mulV x y).1 (mulV x y).2) := by
  cases h1 : isMat x
  · have e : mulV x y = ([], 1) := by simp [mulV, h1]
    rw [e]; clear e
    go_enter Try.func29, Try.ntmps29
    go_wp2_with fail
    refine (asB h1 (isMatrix_c _ _ _ _ hx)).mono ?_
    rintro e w1 ⟨rfl, E1⟩
    go_wp2
    go_ret2
    exact ⟨none, 0, rfl, OwnM.nil _ _, E1⟩
  cases h2 : isMat y
  · have e : mulV x y = ([], 1) := by simp [mulV, h2]
    rw [e]; clear e
    go_enter Try.func29, Try.ntmps29
    go_wp2_with fail
    refine (asB h1 (isMatrix_c _ _ _ _ hx)).mono ?_
    rintro e w1 ⟨rfl, E1⟩
    have hx' := hx.mono E1
    have hy' := hy.mono E1
    go_wp2_with fail
    refine (asB h2 (isMatrix_c _ _ _ _ hy')).mono ?_
    rintro e w2 ⟨rfl, E2⟩
    go_wp2
    go_ret2
    exact ⟨none, 0, rfl, OwnM.nil _ _, E1.trans E2⟩
  obtain ⟨hr1, hr2, hr3, hr4, hr5⟩ := isMat_rect h1
  obtain ⟨hs1, hs2, hs3, hs4, hs5⟩ := isMat_rect h2
  by_cases h3 : (row x 0).length = y.length
  · have e : mulV x y = chkM (mkMat x.length (row y 0).length (mulE y.length x y)) := by simp [mulV, h1, h2, h3]
    rw [e]; clear e
    have h3' : (((row x 0).length : Int) != (y.length : Int)) = false := by simp [h3]
    rw [h3] at hr1
    have hbx := (isMat_ebd h1).mono (show (1000000000000000 : Int) ≤ 4000000000000000000 by omega)
    have hby := (isMat_ebd h2).mono (show (1000000000000000 : Int) ≤ 4000000000000000000 by omega)
    have Hr := Lib.hid (And.intro hr1 hs1)
    clear h3 hr1 hs1
    have HB := Lib.hid (And.intro hbx hby)
    clear hbx hby
    generalize hR : mkMat x.length (row y 0).length (mulE y.length x y) = R at *
    have HR := Lib.hid hR
    clear hR
    unfold chkM
    cases h4 : allM R
    · skip
      go_enter Try.func29, Try.ntmps29
      go_wp2_with fail
      refine (asB h1 (isMatrix_c _ _ _ _ hx)).mono ?_
      rintro e w1 ⟨rfl, E1⟩
      have hx' := hx.mono E1
      have hy' := hy.mono E1
      go_wp2_with fail
      refine (asB h2 (isMatrix_c _ _ _ _ hy')).mono ?_
      rintro e w2 ⟨rfl, E2⟩
      have hz : (0 : Int) < (x.length : Int) := by omega
      obtain ⟨b1, o1, rfl, hc⟩ := (hx'.mono E2).at (i := 0) (by omega)
      obtain ⟨a0, c0, d0, hx0, _⟩ := hc 0 (by omega)
      rw [Nat.add_zero] at d0
      clear hc hx0
      go_wp2_with fail
      refine (multiply_c _ _ _ _ x.length y.length (row y 0).length x y _ (hx'.mono E2) (hy'.mono E2) Hr.out.1 Hr.out.2 (by omega) (by omega) (by omega) (by omega) (by omega) HB.out.1 HB.out.2).mono ?_
      rw [HR.out]
      rintro e w3 ⟨a', cap', rfl, hO, E3⟩
      go_wp2_with fail
      refine (checkedMatrix_c _ _ _ _ hO.mat).mono ?_
      rw [h4]
      rintro e w4 ⟨rfl, rfl⟩
      have E4 := Ext.refl w3
      simp only [if_true, Bool.false_eq_true, if_false]
      go_wp2
      go_ret2
      exact ⟨none, 0, rfl, OwnM.nil _ _, ((E1.trans E2).trans E3).trans E4⟩
    · skip
      go_enter Try.func29, Try.ntmps29
      go_wp2_with fail
      refine (asB h1 (isMatrix_c _ _ _ _ hx)).mono ?_
      rintro e w1 ⟨rfl, E1⟩
      have hx' := hx.mono E1
      have hy' := hy.mono E1
      go_wp2_with fail
      refine (asB h2 (isMatrix_c _ _ _ _ hy')).mono ?_
      rintro e w2 ⟨rfl, E2⟩
      have hz : (0 : Int) < (x.length : Int) := by omega
      obtain ⟨b1, o1, rfl, hc⟩ := (hx'.mono E2).at (i := 0) (by omega)
      obtain ⟨a0, c0, d0, hx0, _⟩ := hc 0 (by omega)
      rw [Nat.add_zero] at d0
      clear hc hx0
      go_wp2_with fail
      refine (multiply_c _ _ _ _ x.length y.length (row y 0).length x y _ (hx'.mono E2) (hy'.mono E2) Hr.out.1 Hr.out.2 (by omega) (by omega) (by omega) (by omega) (by omega) HB.out.1 HB.out.2).mono ?_
      rw [HR.out]
      rintro e w3 ⟨a', cap', rfl, hO, E3⟩
      go_wp2_with fail
      refine (checkedMatrix_c _ _ _ _ hO.mat).mono ?_
      rw [h4]
      rintro e w4 ⟨rfl, rfl⟩
      have E4 := Ext.refl w3
      simp only [if_true, Bool.false_eq_true, if_false]
      go_wp2
      go_ret2
      exact ⟨a', cap', rfl, (hO.ext E4).mono (E1.trans E2).size, ((E1.trans E2).trans E3).trans E4⟩
  · have e : mulV x y = ([], 5) := by simp [mulV, h1, h2, h3]
    rw [e]; clear e
    have h3' : (((row x 0).length : Int) != (y.length : Int)) = true := by simp; omega
    clear h3 hr1
    go_enter Try.func29, Try.ntmps29
    go_wp2_with fail
    refine (asB h1 (isMatrix_c _ _ _ _ hx)).mono ?_
    rintro e w1 ⟨rfl, E1⟩
    have hx' := hx.mono E1
    have hy' := hy.mono E1
    go_wp2_with fail
    refine (asB h2 (isMatrix_c _ _ _ _ hy')).mono ?_
    rintro e w2 ⟨rfl, E2⟩
    have hz : (0 : Int) < (x.length : Int) := by omega
    obtain ⟨b1, o1, rfl, hc⟩ := (hx'.mono E2).at (i := 0) (by omega)
    obtain ⟨a0, c0, d0, hx0, _⟩ := hc 0 (by omega)
    rw [Nat.add_zero] at d0
    clear hc hx0
    go_wp2
    go_ret2
    exact ⟨none, 0, rfl, OwnM.nil _ _, E1.trans E2⟩

set_option maxHeartbeats 400000 in
theorem implApp_c (a b : Option Addr) (ca cb : Nat) (x : List (List Int)) (y : List Int) (w : World) (hx : MatAt w a x) (hy : IntsAt w b y) : Calls Try.prog 34 #[.slice a x.length ca, .slice b y.length cb] w (GivesI2 w (appV x y).1 (appV x y).2) := by
  cases h1 : isMat x
  · have e : appV x y = ([], 1) := by simp [appV, h1]
    rw [e]; clear e
    go_enter Try.func34, Try.ntmps34
    go_wp2_with fail
    refine (asB h1 (isMatrix_c _ _ _ _ hx)).mono ?_
    rintro e w1 ⟨rfl, E1⟩
    go_wp2
    go_ret2
    exact ⟨none, 0, rfl, OwnI.nil _ _, E1⟩
  cases h2 : isVec y
  · have e : appV x y = ([], 1) := by simp [appV, h2]
    rw [e]; clear e
    go_enter Try.func34, Try.ntmps34
    go_wp2_with fail
    refine (asB h1 (isMatrix_c _ _ _ _ hx)).mono ?_
    rintro e w1 ⟨rfl, E1⟩
    have hx' := hx.mono E1
    have hy' := hy.mono E1
    go_wp2_with fail
    refine (asB h2 (isVector_c _ _ _ _ hy')).mono ?_
    rintro e w2 ⟨rfl, rfl⟩
    have E2 := Ext.refl w1
    go_wp2
    go_ret2
    exact ⟨none, 0, rfl, OwnI.nil _ _, E1.trans E2⟩
  obtain ⟨hr1, hr2, hr3, hr4, hr5⟩ := isMat_rect h1
  obtain ⟨hs2, hs3⟩ := isVec_len h2
  by_cases h3 : (row x 0).length = y.length
  · have e : appV x y = chkX (mkRow x.length (appF y.length x y)) := by simp [appV, h1, h2, h3]
    rw [e]; clear e
    have h3' : (((row x 0).length : Int) != (y.length : Int)) = false := by simp [h3]
    rw [h3] at hr1
    have hbx := (isMat_ebd h1).mono (show (1000000000000000 : Int) ≤ 4000000000000000000 by omega)
    have hby := (isVec_vbd h2).mono (show (1000000000000000 : Int) ≤ 4000000000000000000 by omega)
    have Hr := Lib.hid (And.intro hr1 hr1)
    clear h3 hr1 
    have HB := Lib.hid (And.intro hbx hby)
    clear hbx hby
    generalize hR : mkRow x.length (appF y.length x y) = R at *
    have HR := Lib.hid hR
    clear hR
    unfold chkX
    cases h4 : allV R
    · skip
      go_enter Try.func34, Try.ntmps34
      go_wp2_with fail
      refine (asB h1 (isMatrix_c _ _ _ _ hx)).mono ?_
      rintro e w1 ⟨rfl, E1⟩
      have hx' := hx.mono E1
      have hy' := hy.mono E1
      go_wp2_with fail
      refine (asB h2 (isVector_c _ _ _ _ hy')).mono ?_
      rintro e w2 ⟨rfl, rfl⟩
      have E2 := Ext.refl w1
      have hz : (0 : Int) < (x.length : Int) := by omega
      obtain ⟨b1, o1, rfl, hc⟩ := (hx'.mono E2).at (i := 0) (by omega)
      obtain ⟨a0, c0, d0, hx0, _⟩ := hc 0 (by omega)
      rw [Nat.add_zero] at d0
      clear hc hx0
      go_wp2_with fail
      refine (timesVector_c _ _ _ _ x.length y.length x y _ (hx'.mono E2) (hy'.mono E2) Hr.out.1 rfl (by omega) (by omega) (by omega) HB.out.1 HB.out.2).mono ?_
      rw [HR.out]
      rintro e w3 ⟨a', cap', rfl, hO, E3⟩
      go_wp2_with fail
      refine (checkedVector_c _ _ _ _ hO.ints).mono ?_
      rw [h4]
      rintro e w4 ⟨rfl, rfl⟩
      have E4 := Ext.refl w3
      simp only [if_true, Bool.false_eq_true, if_false]
      go_wp2
      go_ret2
      exact ⟨none, 0, rfl, OwnI.nil _ _, ((E1.trans E2).trans E3).trans E4⟩
    · skip
      go_enter Try.func34, Try.ntmps34
      go_wp2_with fail
      refine (asB h1 (isMatrix_c _ _ _ _ hx)).mono ?_
      rintro e w1 ⟨rfl, E1⟩
      have hx' := hx.mono E1
      have hy' := hy.mono E1
      go_wp2_with fail
      refine (asB h2 (isVector_c _ _ _ _ hy')).mono ?_
      rintro e w2 ⟨rfl, rfl⟩
      have E2 := Ext.refl w1
      have hz : (0 : Int) < (x.length : Int) := by omega
      obtain ⟨b1, o1, rfl, hc⟩ := (hx'.mono E2).at (i := 0) (by omega)
      obtain ⟨a0, c0, d0, hx0, _⟩ := hc 0 (by omega)
      rw [Nat.add_zero] at d0
      clear hc hx0
      go_wp2_with fail
      refine (timesVector_c _ _ _ _ x.length y.length x y _ (hx'.mono E2) (hy'.mono E2) Hr.out.1 rfl (by omega) (by omega) (by omega) HB.out.1 HB.out.2).mono ?_
      rw [HR.out]
      rintro e w3 ⟨a', cap', rfl, hO, E3⟩
      go_wp2_with fail
      refine (checkedVector_c _ _ _ _ hO.ints).mono ?_
      rw [h4]
      rintro e w4 ⟨rfl, rfl⟩
      have E4 := Ext.refl w3
      simp only [if_true, Bool.false_eq_true, if_false]
      go_wp2
      go_ret2
      exact ⟨a', cap', rfl, (hO.ext E4).mono (E1.trans E2).size, ((E1.trans E2).trans E3).trans E4⟩
  · have e : appV x y = ([], 5) := by simp [appV, h1, h2, h3]
    rw [e]; clear e
    have h3' : (((row x 0).length : Int) != (y.length : Int)) = true := by simp; omega
    clear h3 hr1
    go_enter Try.func34, Try.ntmps34
    go_wp2_with fail
    refine (asB h1 (isMatrix_c _ _ _ _ hx)).mono ?_
    rintro e w1 ⟨rfl, E1⟩
    have hx' := hx.mono E1
    have hy' := hy.mono E1
    go_wp2_with fail
    refine (asB h2 (isVector_c _ _ _ _ hy')).mono ?_
    rintro e w2 ⟨rfl, rfl⟩
    have E2 := Ext.refl w1
    have hz : (0 : Int) < (x.length : Int) := by omega
    obtain ⟨b1, o1, rfl, hc⟩ := (hx'.mono E2).at (i := 0) (by omega)
    obtain ⟨a0, c0, d0, hx0, _⟩ := hc 0 (by omega)
    rw [Nat.add_zero] at d0
    clear hc hx0
    go_wp2
    go_ret2
    exact ⟨none, 0, rfl, OwnI.nil _ _, E1.trans E2⟩

end Go.Proofs.Ytokhkpbebimohaa
