/- Contracts of exported functions over one or two matrices. Conditions: what is read lies in own memory; no other. -/
import Derived.Test.YtcgfhmkcopigbaaM3
import Derived.Test.YtcgfhmkcopigbaaM4
import Derived.Test.YtcgfhmkcopigbaaM5
import Derived.Test.YtcgfhmkcopigbaaM7
import Derived.Test.YtcgfhmkcopigbaaE1
namespace Go.Proofs.Ytcgfhmkcopigbaa
set_option linter.unusedVariables false
open Go.RowKit

def unitV (n : Int) : List (List Int) × Int := if inR n 1 10 then (mkMat n.toNat n.toNat unitF, 0) else ([], 2)
theorem unitV_tot (n : Int) : tot (unitV n).1 ≤ 1000000 := by
  unfold unitV
  split
  · rename_i h
    simp only [inR_iff] at h
    exact tot_small _ (by omega) (by omega)
  · simp [tot]
theorem implUnit_c (n : Int) (w : World) : Calls Try.prog 19 #[.int .i64 n] w (GivesM2 w (unitV n).1 (unitV n).2) := by
  cases h1 : inR n 1 10
  · have e : unitV n = ([], 2) := by simp [unitV, h1]
    rw [e]; clear e
    go_enter Try.func19, Try.ntmps19
    go_wp2_with fail
    refine (asB h1 (within_c _ _ _ _)).mono ?_
    rintro e w' ⟨rfl, rfl⟩
    go_wp2
    go_ret2
    exact ⟨none, 0, rfl, OwnM.nil _ _, Ext.refl _⟩
  · have b1 := inR_iff.1 h1
    obtain ⟨n, rfl⟩ := Int.eq_ofNat_of_zero_le (show 0 ≤ n by omega)
    have e : unitV n = (mkMat n n unitF, 0) := by simp [unitV, h1]
    rw [e]; clear e
    go_enter Try.func19, Try.ntmps19
    go_wp2_with fail
    refine (asB h1 (within_c _ _ _ _)).mono ?_
    rintro e w' ⟨rfl, rfl⟩
    go_wp2_with fail
    refine (unitMatrix_c n _ (by omega)).mono ?_
    rintro e w' ⟨a, cap, rfl, hO, hE⟩
    go_wp2
    go_ret2
    exact ⟨a, cap, rfl, hO, hE⟩

theorem specUnit_c (n : Int) (w : World) : Calls Try.prog 18 #[.int .i64 n] w (GivesM2 w (unitV n).1 (unitV n).2) := by
  cases h1 : inR n 1 10
  · have e : unitV n = ([], 2) := by simp [unitV, h1]
    rw [e]; clear e
    go_enter Try.func18, Try.ntmps18
    go_wp2_with fail
    refine (asB h1 (l01In_c _ _ _ _)).mono ?_
    rintro e w' ⟨rfl, rfl⟩
    go_wp2
    go_ret2
    exact ⟨none, 0, rfl, OwnM.nil _ _, Ext.refl _⟩
  · have b1 := inR_iff.1 h1
    obtain ⟨n, rfl⟩ := Int.eq_ofNat_of_zero_le (show 0 ≤ n by omega)
    have e : unitV n = (mkMat n n unitF, 0) := by simp [unitV, h1]
    rw [e]; clear e
    go_enter Try.func18, Try.ntmps18
    go_wp2_with fail
    refine (asB h1 (l01In_c _ _ _ _)).mono ?_
    rintro e w' ⟨rfl, rfl⟩
    go_wp2_with fail
    refine (l02Unit_c n _ (by omega)).mono ?_
    rintro e w' ⟨a, cap, rfl, hO, hE⟩
    go_wp2
    go_ret2
    exact ⟨a, cap, rfl, hO, hE⟩

def transV (x : List (List Int)) : List (List Int) × Int := if isMat x then (mkMat (row x 0).length x.length fun i j => ent x j i, 0) else ([], 1)
theorem transV_tot (x : List (List Int)) : tot (transV x).1 ≤ 1000000 := by
  unfold transV
  split
  · rename_i h
    have := isMat_rect h
    exact tot_small _ (by omega) (by omega)
  · simp [tot]
theorem implTrans_c (a : Option Addr) (cap : Nat) (x : List (List Int)) (w : World) (h : MatAt w a x) : Calls Try.prog 49 #[.slice a x.length cap] w (GivesM2 w (transV x).1 (transV x).2) := by
  cases h1 : isMat x
  · have e : transV x = ([], 1) := by simp [transV, h1]
    rw [e]; clear e
    go_enter Try.func49, Try.ntmps49
    go_wp2_with fail
    refine (asB h1 (isMatrix_c _ _ _ _ h)).mono ?_
    rintro e w' ⟨rfl, hE⟩
    go_wp2
    go_ret2
    exact ⟨none, 0, rfl, OwnM.nil _ _, hE⟩
  · obtain ⟨hr1, hr2, hr3, hr4, hr5⟩ := isMat_rect h1
    have e : transV x = (mkMat (row x 0).length x.length fun i j => ent x j i, 0) := by simp [transV, h1]
    rw [e]; clear e
    have Hr := Lib.hid hr1
    clear hr1
    go_enter Try.func49, Try.ntmps49
    go_wp2_with fail
    refine (asB h1 (isMatrix_c _ _ _ _ h)).mono ?_
    rintro e w' ⟨rfl, hE⟩
    go_wp2_with fail
    refine (transposed_c _ _ _ _ _ (h.mono hE) Hr.out (by omega) (by omega) (by omega)).mono ?_
    rintro e w2 ⟨a', cap', rfl, hO, hE2⟩
    go_wp2
    go_ret2
    exact ⟨a', cap', rfl, hO.mono hE.size, hE.trans hE2⟩

theorem specTrans_c (a : Option Addr) (cap : Nat) (x : List (List Int)) (w : World) (h : MatAt w a x) : Calls Try.prog 48 #[.slice a x.length cap] w (GivesM2 w (transV x).1 (transV x).2) := by
  cases h1 : isMat x
  · have e : transV x = ([], 1) := by simp [transV, h1]
    rw [e]; clear e
    go_enter Try.func48, Try.ntmps48
    go_wp2_with fail
    refine (asB h1 (sIsMatrix_c _ _ _ _ h)).mono ?_
    rintro e w' ⟨rfl, hE⟩
    go_wp2
    go_ret2
    exact ⟨none, 0, rfl, OwnM.nil _ _, hE.ext⟩
  · obtain ⟨hr1, hr2, hr3, hr4, hr5⟩ := isMat_rect h1
    have e : transV x = (mkMat (row x 0).length x.length fun i j => ent x j i, 0) := by simp [transV, h1]
    rw [e]; clear e
    have Hr := Lib.hid hr1
    clear hr1
    go_enter Try.func48, Try.ntmps48
    go_wp2_with fail
    refine (asB h1 (sIsMatrix_c _ _ _ _ h)).mono ?_
    rintro e w' ⟨rfl, hE⟩
    go_wp2_with fail
    refine (l02Turn_c _ _ _ _ _ _ (h.qt hE) Hr.out (by omega) (by omega) (by omega) (by omega)).mono ?_
    rintro e w2 ⟨a', cap', rfl, hO, hE2⟩
    go_wp2
    go_ret2
    exact ⟨a', cap', rfl, hO.mono hE.ext.size, hE.ext.trans hE2⟩

def addV (x y : List (List Int)) : List (List Int) × Int :=
  if isMat x && isMat y then (if x.length == y.length && (row x 0).length == (row y 0).length then (mkMat x.length (row x 0).length (addE x y), 0) else ([], 5)) else ([], 1)
theorem addV_tot (x y : List (List Int)) : tot (addV x y).1 ≤ 1000000 := by
  unfold addV
  split
  · rename_i h
    simp only [Bool.and_eq_true] at h
    have := isMat_rect h.1
    split
    · exact tot_small _ (by omega) (by omega)
    · simp [tot]
  · simp [tot]

theorem sIsMatrixE_c (a : Option Addr) (cap : Nat) (m : List (List Int)) (w : World) (hm : MatAt w a m) :
    Calls Try.prog 24 #[.slice a m.length cap] w fun e w' => e = .returned (.bool (isMat m)) ∧ Ext w w' := (sIsMatrix_c a cap m w hm).mono fun _ _ ⟨h, q⟩ => ⟨h, q.ext⟩

set_option maxHeartbeats 400000 in
theorem implAdd_c (a b : Option Addr) (ca cb : Nat) (x y : List (List Int)) (w : World) (hx : MatAt w a x) (hy : MatAt w b y) : Calls Try.prog 51 #[.slice a x.length ca, .slice b y.length cb] w (GivesM2 w (addV x y).1 (addV x y).2) := by
  cases h1 : isMat x
  · have e : addV x y = ([], 1) := by simp [addV, h1]
    rw [e]; clear e
    go_enter Try.func51, Try.ntmps51
    go_wp2_with fail
    refine (asB h1 (isMatrix_c _ _ _ _ hx)).mono ?_
    rintro e w1 ⟨rfl, E1⟩
    go_wp2
    go_ret2
    exact ⟨none, 0, rfl, OwnM.nil _ _, E1⟩
  cases h2 : isMat y
  · have e : addV x y = ([], 1) := by simp [addV, h2]
    rw [e]; clear e
    go_enter Try.func51, Try.ntmps51
    go_wp2_with fail
    refine (asB h1 (isMatrix_c _ _ _ _ hx)).mono ?_
    rintro e w1 ⟨rfl, E1⟩
    have hx' := hx.mono E1
    have hy' := hy.mono E1
    go_wp2_with fail
    refine (asB h2 (isMatrix_c _ _ _ _ hy')).mono ?_
    rintro e w2 ⟨rfl, E2⟩
    go_wp2
    go_ret2
    exact ⟨none, 0, rfl, OwnM.nil _ _, E1.trans E2⟩
  obtain ⟨hr1, hr2, hr3, hr4, hr5⟩ := isMat_rect h1
  obtain ⟨hs1, hs2, hs3, hs4, hs5⟩ := isMat_rect h2
  by_cases h3 : x.length = y.length
  · by_cases h4 : (row x 0).length = (row y 0).length
    · have e : addV x y = (mkMat x.length (row x 0).length (addE x y), 0) := by simp [addV, h1, h2, h3, h4]
      rw [e]; clear e
      rw [← h3, ← h4] at hs1
      have Hr := Lib.hid (And.intro hr1 hs1)
      have h3' : ((x.length : Int) != (y.length : Int)) = false := by simp [h3]
      have h4' : (((row x 0).length : Int) != ((row y 0).length : Int)) = false := by simp [h4]
      have hz : (0 : Int) < (x.length : Int) := by omega
      have hz2 : (0 : Int) < (y.length : Int) := by omega
      clear h3 h4 hr1 hs1
      go_enter Try.func51, Try.ntmps51
      go_wp2_with fail
      refine (asB h1 (isMatrix_c _ _ _ _ hx)).mono ?_
      rintro e w1 ⟨rfl, E1⟩
      have hx' := hx.mono E1
      have hy' := hy.mono E1
      go_wp2_with fail
      refine (asB h2 (isMatrix_c _ _ _ _ hy')).mono ?_
      rintro e w2 ⟨rfl, E2⟩
      obtain ⟨b1, o1, rfl, hc⟩ := (hx'.mono E2).at (i := 0) (by omega)
      obtain ⟨a0, c0, d0, hx0, _⟩ := hc 0 (by omega)
      rw [Nat.add_zero] at d0
      obtain ⟨b2, o2, rfl, hd⟩ := (hy'.mono E2).at (i := 0) (by omega)
      obtain ⟨a3, c3, d3, hy0, _⟩ := hd 0 (by omega)
      rw [Nat.add_zero] at d3
      clear hc hd hx0 hy0
      go_wp2_with fail
      go_big_quiet (fail)
      go_wp2_with fail
      refine (addMatrices_c _ _ _ _ _ _ _ _ _ ((hx'.mono E2).qt ⟨_, rfl⟩) ((hy'.mono E2).qt ⟨_, rfl⟩) Hr.out.1 Hr.out.2 (by omega) (by omega) (by omega)).mono ?_
      rintro e w3 ⟨a', cap', rfl, hO, E3⟩
      go_wp2
      go_ret2
      exact ⟨a', cap', rfl, hO.mono ((E1.trans E2).drewN _).size, ((E1.trans E2).drewN _).trans E3⟩
    · have e : addV x y = ([], 5) := by simp [addV, h1, h2, h4]
      rw [e]; clear e
      have h3' : ((x.length : Int) != (y.length : Int)) = false := by simp [h3]
      have h4' : (((row x 0).length : Int) != ((row y 0).length : Int)) = true := by simp; omega
      have hz : (0 : Int) < (x.length : Int) := by omega
      have hz2 : (0 : Int) < (y.length : Int) := by omega
      clear h3 h4 hr1 hs1
      go_enter Try.func51, Try.ntmps51
      go_wp2_with fail
      refine (asB h1 (isMatrix_c _ _ _ _ hx)).mono ?_
      rintro e w1 ⟨rfl, E1⟩
      have hx' := hx.mono E1
      have hy' := hy.mono E1
      go_wp2_with fail
      refine (asB h2 (isMatrix_c _ _ _ _ hy')).mono ?_
      rintro e w2 ⟨rfl, E2⟩
      obtain ⟨b1, o1, rfl, hc⟩ := (hx'.mono E2).at (i := 0) (by omega)
      obtain ⟨a0, c0, d0, hx0, _⟩ := hc 0 (by omega)
      rw [Nat.add_zero] at d0
      obtain ⟨b2, o2, rfl, hd⟩ := (hy'.mono E2).at (i := 0) (by omega)
      obtain ⟨a3, c3, d3, hy0, _⟩ := hd 0 (by omega)
      rw [Nat.add_zero] at d3
      clear hc hd hx0 hy0
      go_wp2_with fail
      go_big_quiet (fail)
      go_wp2
      go_ret2
      exact ⟨none, 0, rfl, OwnM.nil _ _, (E1.trans E2).drewN _⟩
  · have e : addV x y = ([], 5) := by simp [addV, h1, h2, h3]
    rw [e]; clear e
    have h3' : ((x.length : Int) != (y.length : Int)) = true := by simp; omega
    clear h3 hr1 hs1
    go_enter Try.func51, Try.ntmps51
    go_wp2_with fail
    refine (asB h1 (isMatrix_c _ _ _ _ hx)).mono ?_
    rintro e w1 ⟨rfl, E1⟩
    have hx' := hx.mono E1
    have hy' := hy.mono E1
    go_wp2_with fail
    refine (asB h2 (isMatrix_c _ _ _ _ hy')).mono ?_
    rintro e w2 ⟨rfl, E2⟩
    go_wp2_with fail
    go_big_quiet (fail)
    go_wp2
    go_ret2
    exact ⟨none, 0, rfl, OwnM.nil _ _, (E1.trans E2).drewN _⟩

set_option maxHeartbeats 400000 in
theorem specAdd_c (a b : Option Addr) (ca cb : Nat) (x y : List (List Int)) (w : World) (hx : MatAt w a x) (hy : MatAt w b y) : Calls Try.prog 50 #[.slice a x.length ca, .slice b y.length cb] w (GivesM2 w (addV x y).1 (addV x y).2) := by
  cases h1 : isMat x
  · have e : addV x y = ([], 1) := by simp [addV, h1]
    rw [e]; clear e
    go_enter Try.func50, Try.ntmps50
    go_wp2_with fail
    refine (asB h1 (sIsMatrix_c _ _ _ _ hx)).mono ?_
    rintro e w1 ⟨rfl, E1⟩
    go_wp2
    go_ret2
    exact ⟨none, 0, rfl, OwnM.nil _ _, E1.ext⟩
  cases h2 : isMat y
  · have e : addV x y = ([], 1) := by simp [addV, h2]
    rw [e]; clear e
    go_enter Try.func50, Try.ntmps50
    go_wp2_with fail
    refine (asB h1 (sIsMatrix_c _ _ _ _ hx)).mono ?_
    rintro e w1 ⟨rfl, E1⟩
    replace E1 := E1.ext
    have hx' := hx.mono E1
    have hy' := hy.mono E1
    go_wp2_with fail
    refine (asB h2 (sIsMatrix_c _ _ _ _ hy')).mono ?_
    rintro e w2 ⟨rfl, E2⟩
    replace E2 := E2.ext
    go_wp2
    go_ret2
    exact ⟨none, 0, rfl, OwnM.nil _ _, E1.trans E2⟩
  obtain ⟨hr1, hr2, hr3, hr4, hr5⟩ := isMat_rect h1
  obtain ⟨hs1, hs2, hs3, hs4, hs5⟩ := isMat_rect h2
  by_cases h3 : x.length = y.length
  · by_cases h4 : (row x 0).length = (row y 0).length
    · have e : addV x y = (mkMat x.length (row x 0).length (addE x y), 0) := by simp [addV, h1, h2, h3, h4]
      rw [e]; clear e
      rw [← h3, ← h4] at hs1
      have Hr := Lib.hid (And.intro hr1 hs1)
      have h3' : ((x.length : Int) != (y.length : Int)) = false := by simp [h3]
      have h4' : (((row x 0).length : Int) != ((row y 0).length : Int)) = false := by simp [h4]
      have hz : (0 : Int) < (x.length : Int) := by omega
      have hz2 : (0 : Int) < (y.length : Int) := by omega
      clear h3 h4 hr1 hs1
      go_enter Try.func50, Try.ntmps50
      go_wp2_with fail
      refine (asB h1 (sIsMatrix_c _ _ _ _ hx)).mono ?_
      rintro e w1 ⟨rfl, E1⟩
      replace E1 := E1.ext
      have hx' := hx.mono E1
      have hy' := hy.mono E1
      go_wp2_with fail
      refine (asB h2 (sIsMatrix_c _ _ _ _ hy')).mono ?_
      rintro e w2 ⟨rfl, E2⟩
      replace E2 := E2.ext
      obtain ⟨b1, o1, rfl, hc⟩ := (hx'.mono E2).at (i := 0) (by omega)
      obtain ⟨a0, c0, d0, hx0, _⟩ := hc 0 (by omega)
      rw [Nat.add_zero] at d0
      obtain ⟨b2, o2, rfl, hd⟩ := (hy'.mono E2).at (i := 0) (by omega)
      obtain ⟨a3, c3, d3, hy0, _⟩ := hd 0 (by omega)
      rw [Nat.add_zero] at d3
      clear hc hd hx0 hy0
      go_wp2_with fail
      go_big_quiet (fail)
      go_wp2_with fail
      refine (l02Add_c _ _ _ _ _ _ _ _ _ ((hx'.mono E2).qt ⟨_, rfl⟩) ((hy'.mono E2).qt ⟨_, rfl⟩) Hr.out.1 Hr.out.2 (by omega) (by omega) (by omega) (by omega)).mono ?_
      rintro e w3 ⟨a', cap', rfl, hO, E3⟩
      go_wp2
      go_ret2
      exact ⟨a', cap', rfl, hO.mono ((E1.trans E2).drewN _).size, ((E1.trans E2).drewN _).trans E3⟩
    · have e : addV x y = ([], 5) := by simp [addV, h1, h2, h4]
      rw [e]; clear e
      have h3' : ((x.length : Int) != (y.length : Int)) = false := by simp [h3]
      have h4' : (((row x 0).length : Int) != ((row y 0).length : Int)) = true := by simp; omega
      have hz : (0 : Int) < (x.length : Int) := by omega
      have hz2 : (0 : Int) < (y.length : Int) := by omega
      clear h3 h4 hr1 hs1
      go_enter Try.func50, Try.ntmps50
      go_wp2_with fail
      refine (asB h1 (sIsMatrix_c _ _ _ _ hx)).mono ?_
      rintro e w1 ⟨rfl, E1⟩
      replace E1 := E1.ext
      have hx' := hx.mono E1
      have hy' := hy.mono E1
      go_wp2_with fail
      refine (asB h2 (sIsMatrix_c _ _ _ _ hy')).mono ?_
      rintro e w2 ⟨rfl, E2⟩
      replace E2 := E2.ext
      obtain ⟨b1, o1, rfl, hc⟩ := (hx'.mono E2).at (i := 0) (by omega)
      obtain ⟨a0, c0, d0, hx0, _⟩ := hc 0 (by omega)
      rw [Nat.add_zero] at d0
      obtain ⟨b2, o2, rfl, hd⟩ := (hy'.mono E2).at (i := 0) (by omega)
      obtain ⟨a3, c3, d3, hy0, _⟩ := hd 0 (by omega)
      rw [Nat.add_zero] at d3
      clear hc hd hx0 hy0
      go_wp2_with fail
      go_big_quiet (fail)
      go_wp2
      go_ret2
      exact ⟨none, 0, rfl, OwnM.nil _ _, (E1.trans E2).drewN _⟩
  · have e : addV x y = ([], 5) := by simp [addV, h1, h2, h3]
    rw [e]; clear e
    have h3' : ((x.length : Int) != (y.length : Int)) = true := by simp; omega
    clear h3 hr1 hs1
    go_enter Try.func50, Try.ntmps50
    go_wp2_with fail
    refine (asB h1 (sIsMatrix_c _ _ _ _ hx)).mono ?_
    rintro e w1 ⟨rfl, E1⟩
    replace E1 := E1.ext
    have hx' := hx.mono E1
    have hy' := hy.mono E1
    go_wp2_with fail
    refine (asB h2 (sIsMatrix_c _ _ _ _ hy')).mono ?_
    rintro e w2 ⟨rfl, E2⟩
    replace E2 := E2.ext
    go_wp2_with fail
    go_big_quiet (fail)
    go_wp2
    go_ret2
    exact ⟨none, 0, rfl, OwnM.nil _ _, (E1.trans E2).drewN _⟩

end Go.Proofs.Ytcgfhmkcopigbaa
