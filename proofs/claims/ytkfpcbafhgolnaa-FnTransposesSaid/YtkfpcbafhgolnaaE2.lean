/- Contracts of exported functions over one or two matrices. Conditions: what is read lies in own memory; no other. -/
import Derived.Test.YtkfpcbafhgolnaaM3
import Derived.Test.YtkfpcbafhgolnaaM4
import Derived.Test.YtkfpcbafhgolnaaM5
import Derived.Test.YtkfpcbafhgolnaaM7
import Derived.Test.YtkfpcbafhgolnaaE1
namespace Go.Proofs.Ytkfpcbafhgolnaa
set_option linter.unusedVariables false
open Go.RowKit

def transV (x : List (List Int)) : List (List Int) × Int := if isMat x then (mkMat (row x 0).length x.length fun i j => ent x j i, 0) else ([], 1)
theorem transV_tot (x : List (List Int)) : tot (transV x).1 ≤ 1000000 := by
  unfold transV
  split
  · rename_i h
    have := isMat_rect h
    exact tot_small _ (by omega) (by omega)
  · simp [tot]
theorem implTrans_c (a : Option Addr) (cap : Nat) (x : List (List Int)) (w : World) (h : MatAt w a x) : Calls Try.prog 43 #[.slice a x.length cap] w (GivesM2 w (transV x).1 (transV x).2) := by
  cases h1 : isMat x
  · have e : transV x = ([], 1) := by simp [transV, h1]
    rw [e]; clear e
    go_enter Try.func43, Try.ntmps43
    go_wp2_with fail
    refine (asB h1 (isMatrix_c _ _ _ _ h)).mono ?_
    rintro e w' ⟨rfl, hE⟩
    go_wp2
    go_ret2
    exact ⟨none, 0, rfl, OwnM.nil _ _, hE⟩
  · obtain ⟨hr1, hr2, hr3, hr4, hr5⟩ := isMat_rect h1
    have e : transV x = (mkMat (row x 0).length x.length fun i j => ent x j i, 0) := by simp [transV, h1]
    rw [e]; clear e
    have Hr := Lib.hid hr1
    clear hr1
    go_enter Try.func43, Try.ntmps43
    go_wp2_with fail
    refine (asB h1 (isMatrix_c _ _ _ _ h)).mono ?_
    rintro e w' ⟨rfl, hE⟩
    go_wp2_with fail
    refine (transposed_c _ _ _ _ _ (h.mono hE) Hr.out (by omega) (by omega) (by omega)).mono ?_
    rintro e w2 ⟨a', cap', rfl, hO, hE2⟩
    go_wp2
    go_ret2
    exact ⟨a', cap', rfl, hO.mono hE.size, hE.trans hE2⟩

theorem specTrans_c (a : Option Addr) (cap : Nat) (x : List (List Int)) (w : World) (h : MatAt w a x) : Calls Try.prog 44 #[.slice a x.length cap] w (GivesM2 w (transV x).1 (transV x).2) := by
  cases h1 : isMat x
  · have e : transV x = ([], 1) := by simp [transV, h1]
    rw [e]; clear e
    go_enter Try.func44, Try.ntmps44
    go_wp2_with fail
    refine (asB h1 (sIsMatrix_c _ _ _ _ h)).mono ?_
    rintro e w' ⟨rfl, hE⟩
    go_wp2
    go_ret2
    exact ⟨none, 0, rfl, OwnM.nil _ _, hE.ext⟩
  · obtain ⟨hr1, hr2, hr3, hr4, hr5⟩ := isMat_rect h1
    have e : transV x = (mkMat (row x 0).length x.length fun i j => ent x j i, 0) := by simp [transV, h1]
    rw [e]; clear e
    have Hr := Lib.hid hr1
    clear hr1
    go_enter Try.func44, Try.ntmps44
    go_wp2_with fail
    refine (asB h1 (sIsMatrix_c _ _ _ _ h)).mono ?_
    rintro e w' ⟨rfl, hE⟩
    go_wp2_with fail
    refine (l02Turn_c _ _ _ _ _ _ (h.qt hE) Hr.out (by omega) (by omega) (by omega) (by omega)).mono ?_
    rintro e w2 ⟨a', cap', rfl, hO, hE2⟩
    go_wp2
    go_ret2
    exact ⟨a', cap', rfl, hO.mono hE.ext.size, hE.ext.trans hE2⟩

theorem sIsMatrixE_c (a : Option Addr) (cap : Nat) (m : List (List Int)) (w : World) (hm : MatAt w a m) :
    Calls Try.prog 83 #[.slice a m.length cap] w fun e w' => e = .returned (.bool (isMat m)) ∧ Ext w w' := (sIsMatrix_c a cap m w hm).mono fun _ _ ⟨h, q⟩ => ⟨h, q.ext⟩

end Go.Proofs.Ytkfpcbafhgolnaa
