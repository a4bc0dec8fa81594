/- Several texts in one: E1 E2 E3. -/
import Derived.Test.YtljchmkoafahgaaGM
import Derived.Test.YtljchmkoafahgaaGN
import Derived.Test.YtljchmkoafahgaaGP
/- Contracts of the exported functions that make matrices out of numbers. No condition. -/
namespace Go.Proofs.Ytljchmkoafahgaa
set_option linter.unusedVariables false
open Go.RowKit

end Go.Proofs.Ytljchmkoafahgaa

/- Contracts of exported functions over one or two matrices. Conditions: what is read lies in own memory; no other. -/
namespace Go.Proofs.Ytljchmkoafahgaa
set_option linter.unusedVariables false
open Go.RowKit

def addV (x y : List (List Int)) : List (List Int) × Int :=
  if isMat x && isMat y then (if x.length == y.length && (row x 0).length == (row y 0).length then (mkMat x.length (row x 0).length (addE x y), 0) else ([], 5)) else ([], 1)
theorem addV_tot (x y : List (List Int)) : tot (addV x y).1 ≤ 1000000 := by
  unfold addV
  split
  · rename_i h
    simp only [Bool.and_eq_true] at h
    have := isMat_rect h.1
    split
    · exact tot_small _ (by omega) (by omega)
    · simp [tot]
  · simp [tot]

theorem sIsMatrixE_c (a : Option Addr) (cap : Nat) (m : List (List Int)) (w : World) (hm : MatAt w a m) :
    Calls Try.prog 52 #[.slice a m.length cap] w fun e w' => e = .returned (.bool (isMat m)) ∧ Ext w w' := (sIsMatrix_c a cap m w hm).mono fun _ _ ⟨h, q⟩ => ⟨h, q.ext⟩

set_option maxHeartbeats 400000 in
theorem implAdd_c (a b : Option Addr) (ca cb : Nat) (x y : List (List Int)) (w : World) (hx : MatAt w a x) (hy : MatAt w b y) : Calls Try.prog 48 #[.slice a x.length ca, .slice b y.length cb] w (GivesM2 w (addV x y).1 (addV x y).2) := by
  cases h1 : isMat x
  · have e : addV x y = ([], 1) := by simp [addV, h1]
    rw [e]; clear e
    go_enter Try.func48, Try.ntmps48
    go_wp2_with fail
    refine (asB h1 (isMatrix_c _ _ _ _ hx)).mono ?_
    rintro e w1 ⟨rfl, E1⟩
    go_wp2
    go_ret2
    exact ⟨none, 0, rfl, OwnM.nil _ _, E1⟩
  cases h2 : isMat y
  · have e : addV x y = ([], 1) := by simp [addV, h2]
    rw [e]; clear e
    go_enter Try.func48, Try.ntmps48
    go_wp2_with fail
    refine (asB h1 (isMatrix_c _ _ _ _ hx)).mono ?_
    rintro e w1 ⟨rfl, E1⟩
    have hx' := hx.mono E1
    have hy' := hy.mono E1
    go_wp2_with fail
    refine (asB h2 (isMatrix_c _ _ _ _ hy')).mono ?_
    rintro e w2 ⟨rfl, E2⟩
    go_wp2
    go_ret2
    exact ⟨none, 0, rfl, OwnM.nil _ _, E1.trans E2⟩
  obtain ⟨hr1, hr2, hr3, hr4, hr5⟩ := isMat_rect h1
  obtain ⟨hs1, hs2, hs3, hs4, hs5⟩ := isMat_rect h2
  by_cases h3 : x.length = y.length
  · by_cases h4 : (row x 0).length = (row y 0).length
    · have e : addV x y = (mkMat x.length (row x 0).length (addE x y), 0) := by simp [addV, h1, h2, h3, h4]
      rw [e]; clear e
      rw [← h3, ← h4] at hs1
      have Hr := Lib.hid (And.intro hr1 hs1)
      have h3' : ((x.length : Int) != (y.length : Int)) = false := by simp [h3]
      have h4' : (((row x 0).length : Int) != ((row y 0).length : Int)) = false := by simp [h4]
      have hz : (0 : Int) < (x.length : Int) := by omega
      have hz2 : (0 : Int) < (y.length : Int) := by omega
      clear h3 h4 hr1 hs1
      go_enter Try.func48, Try.ntmps48
      go_wp2_with fail
      refine (asB h1 (isMatrix_c _ _ _ _ hx)).mono ?_
      rintro e w1 ⟨rfl, E1⟩
      have hx' := hx.mono E1
      have hy' := hy.mono E1
      go_wp2_with fail
      refine (asB h2 (isMatrix_c _ _ _ _ hy')).mono ?_
      rintro e w2 ⟨rfl, E2⟩
      obtain ⟨b1, o1, rfl, hc⟩ := (hx'.mono E2).at (i := 0) (by omega)
      obtain ⟨a0, c0, d0, hx0, _⟩ := hc 0 (by omega)
      rw [Nat.add_zero] at d0
      obtain ⟨b2, o2, rfl, hd⟩ := (hy'.mono E2).at (i := 0) (by omega)
      obtain ⟨a3, c3, d3, hy0, _⟩ := hd 0 (by omega)
      rw [Nat.add_zero] at d3
      clear hc hd hx0 hy0
      go_wp2_with fail
      go_big_quiet (fail)
      go_wp2_with fail
      refine (addMatrices_c _ _ _ _ _ _ _ _ _ ((hx'.mono E2).qt ⟨_, rfl⟩) ((hy'.mono E2).qt ⟨_, rfl⟩) Hr.out.1 Hr.out.2 (by omega) (by omega) (by omega)).mono ?_
      rintro e w3 ⟨a', cap', rfl, hO, E3⟩
      go_wp2
      go_ret2
      exact ⟨a', cap', rfl, hO.mono ((E1.trans E2).drewN _).size, ((E1.trans E2).drewN _).trans E3⟩
    · have e : addV x y = ([], 5) := by simp [addV, h1, h2, h4]
      rw [e]; clear e
      have h3' : ((x.length : Int) != (y.length : Int)) = false := by simp [h3]
      have h4' : (((row x 0).length : Int) != ((row y 0).length : Int)) = true := by simp; omega
      have hz : (0 : Int) < (x.length : Int) := by omega
      have hz2 : (0 : Int) < (y.length : Int) := by omega
      clear h3 h4 hr1 hs1
      go_enter Try.func48, Try.ntmps48
      go_wp2_with fail
      refine (asB h1 (isMatrix_c _ _ _ _ hx)).mono ?_
      rintro e w1 ⟨rfl, E1⟩
      have hx' := hx.mono E1
      have hy' := hy.mono E1
      go_wp2_with fail
      refine (asB h2 (isMatrix_c _ _ _ _ hy')).mono ?_
      rintro e w2 ⟨rfl, E2⟩
      obtain ⟨b1, o1, rfl, hc⟩ := (hx'.mono E2).at (i := 0) (by omega)
      obtain ⟨a0, c0, d0, hx0, _⟩ := hc 0 (by omega)
      rw [Nat.add_zero] at d0
      obtain ⟨b2, o2, rfl, hd⟩ := (hy'.mono E2).at (i := 0) (by omega)
      obtain ⟨a3, c3, d3, hy0, _⟩ := hd 0 (by omega)
      rw [Nat.add_zero] at d3
      clear hc hd hx0 hy0
      go_wp2_with fail
      go_big_quiet (fail)
      go_wp2
      go_ret2
      exact ⟨none, 0, rfl, OwnM.nil _ _, (E1.trans E2).drewN _⟩
  · have e : addV x y = ([], 5) := by simp [addV, h1, h2, h3]
    rw [e]; clear e
    have h3' : ((x.length : Int) != (y.length : Int)) = true := by simp; omega
    clear h3 hr1 hs1
    go_enter Try.func48, Try.ntmps48
    go_wp2_with fail
    refine (asB h1 (isMatrix_c _ _ _ _ hx)).mono ?_
    rintro e w1 ⟨rfl, E1⟩
    have hx' := hx.mono E1
    have hy' := hy.mono E1
    go_wp2_with fail
    refine (asB h2 (isMatrix_c _ _ _ _ hy')).mono ?_
    rintro e w2 ⟨rfl, E2⟩
    go_wp2_with fail
    go_big_quiet (fail)
    go_wp2
    go_ret2
    exact ⟨none, 0, rfl, OwnM.nil _ _, (E1.trans E2).drewN _⟩

set_option maxHeartbeats 400000 in
theorem specAdd_c (a b : Option Addr) (ca cb : Nat) (x y : List (List Int)) (w : World) (hx : MatAt w a x) (hy : MatAt w b y) : Calls Try.prog 49 #[.slice a x.length ca, .slice b y.length cb] w (GivesM2 w (addV x y).1 (addV x y).2) := by
  cases h1 : isMat x
  · have e : addV x y = ([], 1) := by simp [addV, h1]
    rw [e]; clear e
    go_enter Try.func49, Try.ntmps49
    go_wp2_with fail
    refine (asB h1 (sIsMatrix_c _ _ _ _ hx)).mono ?_
    rintro e w1 ⟨rfl, E1⟩
    go_wp2
    go_ret2
    exact ⟨none, 0, rfl, OwnM.nil _ _, E1.ext⟩
  cases h2 : isMat y
  · have e : addV x y = ([], 1) := by simp [addV, h2]
    rw [e]; clear e
    go_enter Try.func49, Try.ntmps49
    go_wp2_with fail
    refine (asB h1 (sIsMatrix_c _ _ _ _ hx)).mono ?_
    rintro e w1 ⟨rfl, E1⟩
    replace E1 := E1.ext
    have hx' := hx.mono E1
    have hy' := hy.mono E1
    go_wp2_with fail
    refine (asB h2 (sIsMatrix_c _ _ _ _ hy')).mono ?_
    rintro e w2 ⟨rfl, E2⟩
    replace E2 := E2.ext
    go_wp2
    go_ret2
    exact ⟨none, 0, rfl, OwnM.nil _ _, E1.trans E2⟩
  obtain ⟨hr1, hr2, hr3, hr4, hr5⟩ := isMat_rect h1
  obtain ⟨hs1, hs2, hs3, hs4, hs5⟩ := isMat_rect h2
  by_cases h3 : x.length = y.length
  · by_cases h4 : (row x 0).length = (row y 0).length
    · have e : addV x y = (mkMat x.length (row x 0).length (addE x y), 0) := by simp [addV, h1, h2, h3, h4]
      rw [e]; clear e
      rw [← h3, ← h4] at hs1
      have Hr := Lib.hid (And.intro hr1 hs1)
      have h3' : ((x.length : Int) != (y.length : Int)) = false := by simp [h3]
      have h4' : (((row x 0).length : Int) != ((row y 0).length : Int)) = false := by simp [h4]
      have hz : (0 : Int) < (x.length : Int) := by omega
      have hz2 : (0 : Int) < (y.length : Int) := by omega
      clear h3 h4 hr1 hs1
      go_enter Try.func49, Try.ntmps49
      go_wp2_with fail
      refine (asB h1 (sIsMatrix_c _ _ _ _ hx)).mono ?_
      rintro e w1 ⟨rfl, E1⟩
      replace E1 := E1.ext
      have hx' := hx.mono E1
      have hy' := hy.mono E1
      go_wp2_with fail
      refine (asB h2 (sIsMatrix_c _ _ _ _ hy')).mono ?_
      rintro e w2 ⟨rfl, E2⟩
      replace E2 := E2.ext
      obtain ⟨b1, o1, rfl, hc⟩ := (hx'.mono E2).at (i := 0) (by omega)
      obtain ⟨a0, c0, d0, hx0, _⟩ := hc 0 (by omega)
      rw [Nat.add_zero] at d0
      obtain ⟨b2, o2, rfl, hd⟩ := (hy'.mono E2).at (i := 0) (by omega)
      obtain ⟨a3, c3, d3, hy0, _⟩ := hd 0 (by omega)
      rw [Nat.add_zero] at d3
      clear hc hd hx0 hy0
      go_wp2_with fail
      go_big_quiet (fail)
      go_wp2_with fail
      refine (l02Add_c _ _ _ _ _ _ _ _ _ ((hx'.mono E2).qt ⟨_, rfl⟩) ((hy'.mono E2).qt ⟨_, rfl⟩) Hr.out.1 Hr.out.2 (by omega) (by omega) (by omega) (by omega)).mono ?_
      rintro e w3 ⟨a', cap', rfl, hO, E3⟩
      go_wp2
      go_ret2
      exact ⟨a', cap', rfl, hO.mono ((E1.trans E2).drewN _).size, ((E1.trans E2).drewN _).trans E3⟩
    · have e : addV x y = ([], 5) := by simp [addV, h1, h2, h4]
      rw [e]; clear e
      have h3' : ((x.length : Int) != (y.length : Int)) = false := by simp [h3]
      have h4' : (((row x 0).length : Int) != ((row y 0).length : Int)) = true := by simp; omega
      have hz : (0 : Int) < (x.length : Int) := by omega
      have hz2 : (0 : Int) < (y.length : Int) := by omega
      clear h3 h4 hr1 hs1
      go_enter Try.func49, Try.ntmps49
      go_wp2_with fail
      refine (asB h1 (sIsMatrix_c _ _ _ _ hx)).mono ?_
      rintro e w1 ⟨rfl, E1⟩
      replace E1 := E1.ext
      have hx' := hx.mono E1
      have hy' := hy.mono E1
      go_wp2_with fail
      refine (asB h2 (sIsMatrix_c _ _ _ _ hy')).mono ?_
      rintro e w2 ⟨rfl, E2⟩
      replace E2 := E2.ext
      obtain ⟨b1, o1, rfl, hc⟩ := (hx'.mono E2).at (i := 0) (by omega)
      obtain ⟨a0, c0, d0, hx0, _⟩ := hc 0 (by omega)
      rw [Nat.add_zero] at d0
      obtain ⟨b2, o2, rfl, hd⟩ := (hy'.mono E2).at (i := 0) (by omega)
      obtain ⟨a3, c3, d3, hy0, _⟩ := hd 0 (by omega)
      rw [Nat.add_zero] at d3
      clear hc hd hx0 hy0
      go_wp2_with fail
      go_big_quiet (fail)
      go_wp2
      go_ret2
      exact ⟨none, 0, rfl, OwnM.nil _ _, (E1.trans E2).drewN _⟩
  · have e : addV x y = ([], 5) := by simp [addV, h1, h2, h3]
    rw [e]; clear e
    have h3' : ((x.length : Int) != (y.length : Int)) = true := by simp; omega
    clear h3 hr1 hs1
    go_enter Try.func49, Try.ntmps49
    go_wp2_with fail
    refine (asB h1 (sIsMatrix_c _ _ _ _ hx)).mono ?_
    rintro e w1 ⟨rfl, E1⟩
    replace E1 := E1.ext
    have hx' := hx.mono E1
    have hy' := hy.mono E1
    go_wp2_with fail
    refine (asB h2 (sIsMatrix_c _ _ _ _ hy')).mono ?_
    rintro e w2 ⟨rfl, E2⟩
    replace E2 := E2.ext
    go_wp2_with fail
    go_big_quiet (fail)
    go_wp2
    go_ret2
    exact ⟨none, 0, rfl, OwnM.nil _ _, (E1.trans E2).drewN _⟩

end Go.Proofs.Ytljchmkoafahgaa

/- Contracts of MultiplyMatrices and TimesVector, the program's and the reference's. No condition. -/
namespace Go.Proofs.Ytljchmkoafahgaa
set_option linter.unusedVariables false
set_option linter.unusedSimpArgs false
open Go.RowKit

theorem OwnI.oneWay {w : World} {B : Nat} {a : Option Addr} {n cap : Nat} {xs : List Int} (h : OwnI w B (.slice a n cap) xs) : n = xs.length := h.len

set_option maxHeartbeats 400000 in
theorem implMul_c (a b : Option Addr) (ca cb : Nat) (x y : List (List Int)) (w : World) (hx : MatAt w a x) (hy : MatAt w b y) : Calls Try.prog 44 #[.slice a x.length ca, .slice b y.length cb] w (GivesM2 w (mulV x y).1 (mulV x y).2) := by
  cases h1 : isMat x
  · have e : mulV x y = ([], 1) := by simp [mulV, h1]
    rw [e]; clear e
    go_enter Try.func44, Try.ntmps44
    go_wp2_with fail
    refine (asB h1 (isMatrix_c _ _ _ _ hx)).mono ?_
    rintro e w1 ⟨rfl, E1⟩
    go_wp2
    go_ret2
    exact ⟨none, 0, rfl, OwnM.nil _ _, E1⟩
  cases h2 : isMat y
  · have e : mulV x y = ([], 1) := by simp [mulV, h2]
    rw [e]; clear e
    go_enter Try.func44, Try.ntmps44
    go_wp2_with fail
    refine (asB h1 (isMatrix_c _ _ _ _ hx)).mono ?_
    rintro e w1 ⟨rfl, E1⟩
    have hx' := hx.mono E1
    have hy' := hy.mono E1
    go_wp2_with fail
    refine (asB h2 (isMatrix_c _ _ _ _ hy')).mono ?_
    rintro e w2 ⟨rfl, E2⟩
    go_wp2
    go_ret2
    exact ⟨none, 0, rfl, OwnM.nil _ _, E1.trans E2⟩
  obtain ⟨hr1, hr2, hr3, hr4, hr5⟩ := isMat_rect h1
  obtain ⟨hs1, hs2, hs3, hs4, hs5⟩ := isMat_rect h2
  by_cases h3 : (row x 0).length = y.length
  · have e : mulV x y = chkM (mkMat x.length (row y 0).length (mulE y.length x y)) := by simp [mulV, h1, h2, h3]
    rw [e]; clear e
    have h3' : (((row x 0).length : Int) != (y.length : Int)) = false := by simp [h3]
    rw [h3] at hr1
    have hbx := (isMat_ebd h1).mono (show (1000000000000000 : Int) ≤ 4000000000000000000 by omega)
    have hby := (isMat_ebd h2).mono (show (1000000000000000 : Int) ≤ 4000000000000000000 by omega)
    have Hr := Lib.hid (And.intro hr1 hs1)
    clear h3 hr1 hs1
    have HB := Lib.hid (And.intro hbx hby)
    clear hbx hby
    generalize hR : mkMat x.length (row y 0).length (mulE y.length x y) = R at *
    have HR := Lib.hid hR
    clear hR
    unfold chkM
    cases h4 : allM R
    · skip
      go_enter Try.func44, Try.ntmps44
      go_wp2_with fail
      refine (asB h1 (isMatrix_c _ _ _ _ hx)).mono ?_
      rintro e w1 ⟨rfl, E1⟩
      have hx' := hx.mono E1
      have hy' := hy.mono E1
      go_wp2_with fail
      refine (asB h2 (isMatrix_c _ _ _ _ hy')).mono ?_
      rintro e w2 ⟨rfl, E2⟩
      have hz : (0 : Int) < (x.length : Int) := by omega
      obtain ⟨b1, o1, rfl, hc⟩ := (hx'.mono E2).at (i := 0) (by omega)
      obtain ⟨a0, c0, d0, hx0, _⟩ := hc 0 (by omega)
      rw [Nat.add_zero] at d0
      clear hc hx0
      go_wp2_with fail
      refine (multiply_c _ _ _ _ x.length y.length (row y 0).length x y _ (hx'.mono E2) (hy'.mono E2) Hr.out.1 Hr.out.2 (by omega) (by omega) (by omega) (by omega) (by omega) HB.out.1 HB.out.2).mono ?_
      rw [HR.out]
      rintro e w3 ⟨a', cap', rfl, hO, E3⟩
      go_wp2_with fail
      refine (checkedMatrix_c _ _ _ _ hO.mat).mono ?_
      rw [h4]
      rintro e w4 ⟨rfl, rfl⟩
      have E4 := Ext.refl w3
      simp only [if_true, Bool.false_eq_true, if_false]
      go_wp2
      go_ret2
      exact ⟨none, 0, rfl, OwnM.nil _ _, ((E1.trans E2).trans E3).trans E4⟩
    · skip
      go_enter Try.func44, Try.ntmps44
      go_wp2_with fail
      refine (asB h1 (isMatrix_c _ _ _ _ hx)).mono ?_
      rintro e w1 ⟨rfl, E1⟩
      have hx' := hx.mono E1
      have hy' := hy.mono E1
      go_wp2_with fail
      refine (asB h2 (isMatrix_c _ _ _ _ hy')).mono ?_
      rintro e w2 ⟨rfl, E2⟩
      have hz : (0 : Int) < (x.length : Int) := by omega
      obtain ⟨b1, o1, rfl, hc⟩ := (hx'.mono E2).at (i := 0) (by omega)
      obtain ⟨a0, c0, d0, hx0, _⟩ := hc 0 (by omega)
      rw [Nat.add_zero] at d0
      clear hc hx0
      go_wp2_with fail
      refine (multiply_c _ _ _ _ x.length y.length (row y 0).length x y _ (hx'.mono E2) (hy'.mono E2) Hr.out.1 Hr.out.2 (by omega) (by omega) (by omega) (by omega) (by omega) HB.out.1 HB.out.2).mono ?_
      rw [HR.out]
      rintro e w3 ⟨a', cap', rfl, hO, E3⟩
      go_wp2_with fail
      refine (checkedMatrix_c _ _ _ _ hO.mat).mono ?_
      rw [h4]
      rintro e w4 ⟨rfl, rfl⟩
      have E4 := Ext.refl w3
      simp only [if_true, Bool.false_eq_true, if_false]
      go_wp2
      go_ret2
      exact ⟨a', cap', rfl, (hO.ext E4).mono (E1.trans E2).size, ((E1.trans E2).trans E3).trans E4⟩
  · have e : mulV x y = ([], 5) := by simp [mulV, h1, h2, h3]
    rw [e]; clear e
    have h3' : (((row x 0).length : Int) != (y.length : Int)) = true := by simp; omega
    clear h3 hr1
    go_enter Try.func44, Try.ntmps44
    go_wp2_with fail
    refine (asB h1 (isMatrix_c _ _ _ _ hx)).mono ?_
    rintro e w1 ⟨rfl, E1⟩
    have hx' := hx.mono E1
    have hy' := hy.mono E1
    go_wp2_with fail
    refine (asB h2 (isMatrix_c _ _ _ _ hy')).mono ?_
    rintro e w2 ⟨rfl, E2⟩
    have hz : (0 : Int) < (x.length : Int) := by omega
    obtain ⟨b1, o1, rfl, hc⟩ := (hx'.mono E2).at (i := 0) (by omega)
    obtain ⟨a0, c0, d0, hx0, _⟩ := hc 0 (by omega)
    rw [Nat.add_zero] at d0
    clear hc hx0
    go_wp2
    go_ret2
    exact ⟨none, 0, rfl, OwnM.nil _ _, E1.trans E2⟩

set_option maxHeartbeats 400000 in
theorem implApp_c (a b : Option Addr) (ca cb : Nat) (x : List (List Int)) (y : List Int) (w : World) (hx : MatAt w a x) (hy : IntsAt w b y) : Calls Try.prog 41 #[.slice a x.length ca, .slice b y.length cb] w (GivesI2 w (appV x y).1 (appV x y).2) := by
  cases h1 : isMat x
  · have e : appV x y = ([], 1) := by simp [appV, h1]
    rw [e]; clear e
    go_enter Try.func41, Try.ntmps41
    go_wp2_with fail
    refine (asB h1 (isMatrix_c _ _ _ _ hx)).mono ?_
    rintro e w1 ⟨rfl, E1⟩
    go_wp2
    go_ret2
    exact ⟨none, 0, rfl, OwnI.nil _ _, E1⟩
  cases h2 : isVec y
  · have e : appV x y = ([], 1) := by simp [appV, h2]
    rw [e]; clear e
    go_enter Try.func41, Try.ntmps41
    go_wp2_with fail
    refine (asB h1 (isMatrix_c _ _ _ _ hx)).mono ?_
    rintro e w1 ⟨rfl, E1⟩
    have hx' := hx.mono E1
    have hy' := hy.mono E1
    go_wp2_with fail
    refine (asB h2 (isVector_c _ _ _ _ hy')).mono ?_
    rintro e w2 ⟨rfl, rfl⟩
    have E2 := Ext.refl w1
    go_wp2
    go_ret2
    exact ⟨none, 0, rfl, OwnI.nil _ _, E1.trans E2⟩
  obtain ⟨hr1, hr2, hr3, hr4, hr5⟩ := isMat_rect h1
  obtain ⟨hs2, hs3⟩ := isVec_len h2
  by_cases h3 : (row x 0).length = y.length
  · have e : appV x y = chkX (mkRow x.length (appF y.length x y)) := by simp [appV, h1, h2, h3]
    rw [e]; clear e
    have h3' : (((row x 0).length : Int) != (y.length : Int)) = false := by simp [h3]
    rw [h3] at hr1
    have hbx := (isMat_ebd h1).mono (show (1000000000000000 : Int) ≤ 4000000000000000000 by omega)
    have hby := (isVec_vbd h2).mono (show (1000000000000000 : Int) ≤ 4000000000000000000 by omega)
    have Hr := Lib.hid (And.intro hr1 hr1)
    clear h3 hr1 
    have HB := Lib.hid (And.intro hbx hby)
    clear hbx hby
    generalize hR : mkRow x.length (appF y.length x y) = R at *
    have HR := Lib.hid hR
    clear hR
    unfold chkX
    cases h4 : allV R
    · skip
      go_enter Try.func41, Try.ntmps41
      go_wp2_with fail
      refine (asB h1 (isMatrix_c _ _ _ _ hx)).mono ?_
      rintro e w1 ⟨rfl, E1⟩
      have hx' := hx.mono E1
      have hy' := hy.mono E1
      go_wp2_with fail
      refine (asB h2 (isVector_c _ _ _ _ hy')).mono ?_
      rintro e w2 ⟨rfl, rfl⟩
      have E2 := Ext.refl w1
      have hz : (0 : Int) < (x.length : Int) := by omega
      obtain ⟨b1, o1, rfl, hc⟩ := (hx'.mono E2).at (i := 0) (by omega)
      obtain ⟨a0, c0, d0, hx0, _⟩ := hc 0 (by omega)
      rw [Nat.add_zero] at d0
      clear hc hx0
      go_wp2_with fail
      refine (timesVector_c _ _ _ _ x.length y.length x y _ (hx'.mono E2) (hy'.mono E2) Hr.out.1 rfl (by omega) (by omega) (by omega) HB.out.1 HB.out.2).mono ?_
      rw [HR.out]
      rintro e w3 ⟨a', cap', rfl, hO, E3⟩
      go_wp2_with fail
      refine (checkedVector_c _ _ _ _ hO.ints).mono ?_
      rw [h4]
      rintro e w4 ⟨rfl, rfl⟩
      have E4 := Ext.refl w3
      simp only [if_true, Bool.false_eq_true, if_false]
      go_wp2
      go_ret2
      exact ⟨none, 0, rfl, OwnI.nil _ _, ((E1.trans E2).trans E3).trans E4⟩
    · skip
      go_enter Try.func41, Try.ntmps41
      go_wp2_with fail
      refine (asB h1 (isMatrix_c _ _ _ _ hx)).mono ?_
      rintro e w1 ⟨rfl, E1⟩
      have hx' := hx.mono E1
      have hy' := hy.mono E1
      go_wp2_with fail
      refine (asB h2 (isVector_c _ _ _ _ hy')).mono ?_
      rintro e w2 ⟨rfl, rfl⟩
      have E2 := Ext.refl w1
      have hz : (0 : Int) < (x.length : Int) := by omega
      obtain ⟨b1, o1, rfl, hc⟩ := (hx'.mono E2).at (i := 0) (by omega)
      obtain ⟨a0, c0, d0, hx0, _⟩ := hc 0 (by omega)
      rw [Nat.add_zero] at d0
      clear hc hx0
      go_wp2_with fail
      refine (timesVector_c _ _ _ _ x.length y.length x y _ (hx'.mono E2) (hy'.mono E2) Hr.out.1 rfl (by omega) (by omega) (by omega) HB.out.1 HB.out.2).mono ?_
      rw [HR.out]
      rintro e w3 ⟨a', cap', rfl, hO, E3⟩
      go_wp2_with fail
      refine (checkedVector_c _ _ _ _ hO.ints).mono ?_
      rw [h4]
      rintro e w4 ⟨rfl, rfl⟩
      have E4 := Ext.refl w3
      simp only [if_true, Bool.false_eq_true, if_false]
      go_wp2
      go_ret2
      exact ⟨a', cap', rfl, (hO.ext E4).mono (E1.trans E2).size, ((E1.trans E2).trans E3).trans E4⟩
  · have e : appV x y = ([], 5) := by simp [appV, h1, h2, h3]
    rw [e]; clear e
    have h3' : (((row x 0).length : Int) != (y.length : Int)) = true := by simp; omega
    clear h3 hr1
    go_enter Try.func41, Try.ntmps41
    go_wp2_with fail
    refine (asB h1 (isMatrix_c _ _ _ _ hx)).mono ?_
    rintro e w1 ⟨rfl, E1⟩
    have hx' := hx.mono E1
    have hy' := hy.mono E1
    go_wp2_with fail
    refine (asB h2 (isVector_c _ _ _ _ hy')).mono ?_
    rintro e w2 ⟨rfl, rfl⟩
    have E2 := Ext.refl w1
    have hz : (0 : Int) < (x.length : Int) := by omega
    obtain ⟨b1, o1, rfl, hc⟩ := (hx'.mono E2).at (i := 0) (by omega)
    obtain ⟨a0, c0, d0, hx0, _⟩ := hc 0 (by omega)
    rw [Nat.add_zero] at d0
    clear hc hx0
    go_wp2
    go_ret2
    exact ⟨none, 0, rfl, OwnI.nil _ _, E1.trans E2⟩

set_option maxHeartbeats 400000 in
theorem specMul_c (a b : Option Addr) (ca cb : Nat) (x y : List (List Int)) (w : World) (hx : MatAt w a x) (hy : MatAt w b y) : Calls Try.prog 46 #[.slice a x.length ca, .slice b y.length cb] w (GivesM2 w (mulV x y).1 (mulV x y).2) := by
  cases h1 : isMat x
  · have e : mulV x y = ([], 1) := by simp [mulV, h1]
    rw [e]; clear e
    go_enter Try.func46, Try.ntmps46
    go_wp2_with fail
    refine (asB h1 (sIsMatrix_c _ _ _ _ hx)).mono ?_
    rintro e w1 ⟨rfl, E1⟩
    replace E1 := E1.ext
    go_wp2
    go_ret2
    exact ⟨none, 0, rfl, OwnM.nil _ _, E1⟩
  cases h2 : isMat y
  · have e : mulV x y = ([], 1) := by simp [mulV, h2]
    rw [e]; clear e
    go_enter Try.func46, Try.ntmps46
    go_wp2_with fail
    refine (asB h1 (sIsMatrix_c _ _ _ _ hx)).mono ?_
    rintro e w1 ⟨rfl, E1⟩
    replace E1 := E1.ext
    have hx' := hx.mono E1
    have hy' := hy.mono E1
    go_wp2_with fail
    refine (asB h2 (sIsMatrix_c _ _ _ _ hy')).mono ?_
    rintro e w2 ⟨rfl, E2⟩
    replace E2 := E2.ext
    go_wp2
    go_ret2
    exact ⟨none, 0, rfl, OwnM.nil _ _, E1.trans E2⟩
  obtain ⟨hr1, hr2, hr3, hr4, hr5⟩ := isMat_rect h1
  obtain ⟨hs1, hs2, hs3, hs4, hs5⟩ := isMat_rect h2
  by_cases h3 : (row x 0).length = y.length
  · have e : mulV x y = chkM (mkMat x.length (row y 0).length (mulE y.length x y)) := by simp [mulV, h1, h2, h3]
    rw [e]; clear e
    have h3' : (((row x 0).length : Int) != (y.length : Int)) = false := by simp [h3]
    rw [h3] at hr1
    have hbx := (isMat_ebd h1).mono (show (1000000000000000 : Int) ≤ 4000000000000000000 by omega)
    have hby := (isMat_ebd h2).mono (show (1000000000000000 : Int) ≤ 4000000000000000000 by omega)
    have hck : isMat (mkMat x.length (row y 0).length (mulE y.length x y)) = allM (mkMat x.length (row y 0).length (mulE y.length x y)) := isMat_mk _ (by omega) (by omega) (by omega) (by omega)
    have Hr := Lib.hid (And.intro hr1 hs1)
    clear h3 hr1 hs1
    have HB := Lib.hid (And.intro hbx hby)
    clear hbx hby
    generalize hR : mkMat x.length (row y 0).length (mulE y.length x y) = R at *
    have HR := Lib.hid hR
    clear hR
    unfold chkM
    cases h4 : allM R
    · rw [h4] at hck
      go_enter Try.func46, Try.ntmps46
      go_wp2_with fail
      refine (asB h1 (sIsMatrix_c _ _ _ _ hx)).mono ?_
      rintro e w1 ⟨rfl, E1⟩
      replace E1 := E1.ext
      have hx' := hx.mono E1
      have hy' := hy.mono E1
      go_wp2_with fail
      refine (asB h2 (sIsMatrix_c _ _ _ _ hy')).mono ?_
      rintro e w2 ⟨rfl, E2⟩
      replace E2 := E2.ext
      have hz : (0 : Int) < (x.length : Int) := by omega
      obtain ⟨b1, o1, rfl, hc⟩ := (hx'.mono E2).at (i := 0) (by omega)
      obtain ⟨a0, c0, d0, hx0, _⟩ := hc 0 (by omega)
      rw [Nat.add_zero] at d0
      clear hc hx0
      go_wp2_with fail
      refine (l02Multiply_c _ _ _ _ x.length y.length (row y 0).length x y _ (hx'.mono E2) (hy'.mono E2) Hr.out.1 Hr.out.2 (by omega) (by omega) (by omega) (by omega) (by omega) HB.out.1 HB.out.2).mono ?_
      rw [HR.out]
      rintro e w3 ⟨a', cap', rfl, hO, E3⟩
      go_wp2_with fail
      refine (asB hck (sIsMatrix_c _ _ _ _ hO.mat)).mono ?_
      rintro e w4 ⟨rfl, E4⟩
      replace E4 := E4.ext
      go_wp2
      go_ret2
      exact ⟨none, 0, rfl, OwnM.nil _ _, ((E1.trans E2).trans E3).trans E4⟩
    · rw [h4] at hck
      go_enter Try.func46, Try.ntmps46
      go_wp2_with fail
      refine (asB h1 (sIsMatrix_c _ _ _ _ hx)).mono ?_
      rintro e w1 ⟨rfl, E1⟩
      replace E1 := E1.ext
      have hx' := hx.mono E1
      have hy' := hy.mono E1
      go_wp2_with fail
      refine (asB h2 (sIsMatrix_c _ _ _ _ hy')).mono ?_
      rintro e w2 ⟨rfl, E2⟩
      replace E2 := E2.ext
      have hz : (0 : Int) < (x.length : Int) := by omega
      obtain ⟨b1, o1, rfl, hc⟩ := (hx'.mono E2).at (i := 0) (by omega)
      obtain ⟨a0, c0, d0, hx0, _⟩ := hc 0 (by omega)
      rw [Nat.add_zero] at d0
      clear hc hx0
      go_wp2_with fail
      refine (l02Multiply_c _ _ _ _ x.length y.length (row y 0).length x y _ (hx'.mono E2) (hy'.mono E2) Hr.out.1 Hr.out.2 (by omega) (by omega) (by omega) (by omega) (by omega) HB.out.1 HB.out.2).mono ?_
      rw [HR.out]
      rintro e w3 ⟨a', cap', rfl, hO, E3⟩
      go_wp2_with fail
      refine (asB hck (sIsMatrix_c _ _ _ _ hO.mat)).mono ?_
      rintro e w4 ⟨rfl, E4⟩
      replace E4 := E4.ext
      go_wp2
      go_ret2
      exact ⟨a', cap', rfl, (hO.ext E4).mono (E1.trans E2).size, ((E1.trans E2).trans E3).trans E4⟩
  · have e : mulV x y = ([], 5) := by simp [mulV, h1, h2, h3]
    rw [e]; clear e
    have h3' : (((row x 0).length : Int) != (y.length : Int)) = true := by simp; omega
    clear h3 hr1
    go_enter Try.func46, Try.ntmps46
    go_wp2_with fail
    refine (asB h1 (sIsMatrix_c _ _ _ _ hx)).mono ?_
    rintro e w1 ⟨rfl, E1⟩
    replace E1 := E1.ext
    have hx' := hx.mono E1
    have hy' := hy.mono E1
    go_wp2_with fail
    refine (asB h2 (sIsMatrix_c _ _ _ _ hy')).mono ?_
    rintro e w2 ⟨rfl, E2⟩
    replace E2 := E2.ext
    have hz : (0 : Int) < (x.length : Int) := by omega
    obtain ⟨b1, o1, rfl, hc⟩ := (hx'.mono E2).at (i := 0) (by omega)
    obtain ⟨a0, c0, d0, hx0, _⟩ := hc 0 (by omega)
    rw [Nat.add_zero] at d0
    clear hc hx0
    go_wp2
    go_ret2
    exact ⟨none, 0, rfl, OwnM.nil _ _, E1.trans E2⟩

set_option maxHeartbeats 400000 in
theorem specApp_c (a b : Option Addr) (ca cb : Nat) (x : List (List Int)) (y : List Int) (w : World) (hx : MatAt w a x) (hy : IntsAt w b y) : Calls Try.prog 42 #[.slice a x.length ca, .slice b y.length cb] w (GivesI2 w (appV x y).1 (appV x y).2) := by
  cases h1 : isMat x
  · have e : appV x y = ([], 1) := by simp [appV, h1]
    rw [e]; clear e
    go_enter Try.func42, Try.ntmps42
    go_wp2_with fail
    refine (asB h1 (sIsMatrix_c _ _ _ _ hx)).mono ?_
    rintro e w1 ⟨rfl, E1⟩
    replace E1 := E1.ext
    go_wp2
    go_ret2
    exact ⟨none, 0, rfl, OwnI.nil _ _, E1⟩
  cases h2 : isVec y
  · have e : appV x y = ([], 1) := by simp [appV, h2]
    rw [e]; clear e
    go_enter Try.func42, Try.ntmps42
    go_wp2_with fail
    refine (asB h1 (sIsMatrix_c _ _ _ _ hx)).mono ?_
    rintro e w1 ⟨rfl, E1⟩
    replace E1 := E1.ext
    have hx' := hx.mono E1
    have hy' := hy.mono E1
    go_wp2_with fail
    refine (asB h2 (l02Vector_c _ _ _ _ hy')).mono ?_
    rintro e w2 ⟨rfl, rfl⟩
    have E2 := Ext.refl w1
    go_wp2
    go_ret2
    exact ⟨none, 0, rfl, OwnI.nil _ _, E1.trans E2⟩
  obtain ⟨hr1, hr2, hr3, hr4, hr5⟩ := isMat_rect h1
  obtain ⟨hs2, hs3⟩ := isVec_len h2
  by_cases h3 : (row x 0).length = y.length
  · have e : appV x y = chkX (mkRow x.length (appF y.length x y)) := by simp [appV, h1, h2, h3]
    rw [e]; clear e
    have h3' : (((row x 0).length : Int) != (y.length : Int)) = false := by simp [h3]
    rw [h3] at hr1
    have hbx := (isMat_ebd h1).mono (show (1000000000000000 : Int) ≤ 4000000000000000000 by omega)
    have hby := (isVec_vbd h2).mono (show (1000000000000000 : Int) ≤ 4000000000000000000 by omega)
    have hck : isVec (mkRow x.length (appF y.length x y)) = allV (mkRow x.length (appF y.length x y)) := isVec_mk _ (by omega) (by omega)
    have Hr := Lib.hid (And.intro hr1 hr1)
    clear h3 hr1 
    have HB := Lib.hid (And.intro hbx hby)
    clear hbx hby
    generalize hR : mkRow x.length (appF y.length x y) = R at *
    have HR := Lib.hid hR
    clear hR
    unfold chkX
    cases h4 : allV R
    · rw [h4] at hck
      go_enter Try.func42, Try.ntmps42
      go_wp2_with fail
      refine (asB h1 (sIsMatrix_c _ _ _ _ hx)).mono ?_
      rintro e w1 ⟨rfl, E1⟩
      replace E1 := E1.ext
      have hx' := hx.mono E1
      have hy' := hy.mono E1
      go_wp2_with fail
      refine (asB h2 (l02Vector_c _ _ _ _ hy')).mono ?_
      rintro e w2 ⟨rfl, rfl⟩
      have E2 := Ext.refl w1
      have hz : (0 : Int) < (x.length : Int) := by omega
      obtain ⟨b1, o1, rfl, hc⟩ := (hx'.mono E2).at (i := 0) (by omega)
      obtain ⟨a0, c0, d0, hx0, _⟩ := hc 0 (by omega)
      rw [Nat.add_zero] at d0
      clear hc hx0
      go_wp2_with fail
      refine (l02Apply_c _ _ _ _ x.length y.length x y _ (hx'.mono E2) (hy'.mono E2) Hr.out.1 rfl (by omega) (by omega) (by omega) HB.out.1 HB.out.2).mono ?_
      rw [HR.out]
      rintro e w3 ⟨a', cap', rfl, hO, E3⟩
      go_wp2_with fail
      refine (asB hck (l02Vector_c _ _ _ _ hO.ints)).mono ?_
      rintro e w4 ⟨rfl, rfl⟩
      have E4 := Ext.refl w3
      go_wp2
      go_ret2
      exact ⟨none, 0, rfl, OwnI.nil _ _, ((E1.trans E2).trans E3).trans E4⟩
    · rw [h4] at hck
      go_enter Try.func42, Try.ntmps42
      go_wp2_with fail
      refine (asB h1 (sIsMatrix_c _ _ _ _ hx)).mono ?_
      rintro e w1 ⟨rfl, E1⟩
      replace E1 := E1.ext
      have hx' := hx.mono E1
      have hy' := hy.mono E1
      go_wp2_with fail
      refine (asB h2 (l02Vector_c _ _ _ _ hy')).mono ?_
      rintro e w2 ⟨rfl, rfl⟩
      have E2 := Ext.refl w1
      have hz : (0 : Int) < (x.length : Int) := by omega
      obtain ⟨b1, o1, rfl, hc⟩ := (hx'.mono E2).at (i := 0) (by omega)
      obtain ⟨a0, c0, d0, hx0, _⟩ := hc 0 (by omega)
      rw [Nat.add_zero] at d0
      clear hc hx0
      go_wp2_with fail
      refine (l02Apply_c _ _ _ _ x.length y.length x y _ (hx'.mono E2) (hy'.mono E2) Hr.out.1 rfl (by omega) (by omega) (by omega) HB.out.1 HB.out.2).mono ?_
      rw [HR.out]
      rintro e w3 ⟨a', cap', rfl, hO, E3⟩
      go_wp2_with fail
      refine (asB hck (l02Vector_c _ _ _ _ hO.ints)).mono ?_
      rintro e w4 ⟨rfl, rfl⟩
      have E4 := Ext.refl w3
      go_wp2
      go_ret2
      exact ⟨a', cap', rfl, (hO.ext E4).mono (E1.trans E2).size, ((E1.trans E2).trans E3).trans E4⟩
  · have e : appV x y = ([], 5) := by simp [appV, h1, h2, h3]
    rw [e]; clear e
    have h3' : (((row x 0).length : Int) != (y.length : Int)) = true := by simp; omega
    clear h3 hr1
    go_enter Try.func42, Try.ntmps42
    go_wp2_with fail
    refine (asB h1 (sIsMatrix_c _ _ _ _ hx)).mono ?_
    rintro e w1 ⟨rfl, E1⟩
    replace E1 := E1.ext
    have hx' := hx.mono E1
    have hy' := hy.mono E1
    go_wp2_with fail
    refine (asB h2 (l02Vector_c _ _ _ _ hy')).mono ?_
    rintro e w2 ⟨rfl, rfl⟩
    have E2 := Ext.refl w1
    have hz : (0 : Int) < (x.length : Int) := by omega
    obtain ⟨b1, o1, rfl, hc⟩ := (hx'.mono E2).at (i := 0) (by omega)
    obtain ⟨a0, c0, d0, hx0, _⟩ := hc 0 (by omega)
    rw [Nat.add_zero] at d0
    clear hc hx0
    go_wp2
    go_ret2
    exact ⟨none, 0, rfl, OwnI.nil _ _, E1.trans E2⟩

end Go.Proofs.Ytljchmkoafahgaa
