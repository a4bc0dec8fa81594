/- The walk of the law over the texts of drawn matrices. What the library reads lies in memory. -/
import Derived.Test.YtkipbfjkcdccjaaGreatDoorD19
import Derived.Test.YtkipbfjkcdccjaaGreatDoorT12
import Derived.Test.YtkipbfjkcdccjaaGreatDoorT9
namespace Go.Proofs.YtkipbfjkcdccjaaGreatDoor
set_option linter.unusedVariables false
set_option linter.unusedSimpArgs false
open Go.RowKit

theorem rdM_cases (M : List (List Int)) : ∃ (T : List UInt8) (m1 : List (List Int)) (ok1 : Bool), matT M = T ∧ rdMV T = m1 ∧ rdM T = ok1 ∧ ((ok1 = true ∧ m1 = M ∧ T ≠ []) ∨ (ok1 = false ∧ T = [])) := by
  cases h : isMat M
  · exact ⟨[], rdMV [], false, matT_no h, rfl, rdM_nil, .inr ⟨rfl, rfl⟩⟩
  · have h1 := rdM_matT h
    exact ⟨matT M, M, true, rfl, by rw [rdMV_mat h1.1, h1.2], h1.1, .inl ⟨rfl, rfl, matT_ne h⟩⟩
theorem rdM_back (l : List UInt8) : ∃ (m : List (List Int)) (ok : Bool), rdMV l = m ∧ rdM l = ok ∧ (ok = true → matT m = l) :=
  ⟨rdMV l, rdM l, rfl, rfl, fun h => by rw [rdMV_mat h]; exact matT_mtV h⟩
set_option maxHeartbeats 2000000 in
theorem FnMatrixTexts_walk (ca : Option Addr) (cc : Nat) (bs : List Int) {w : World} (h : CodeAt w ca bs) (hb : Lb w) :
    Calls Tryz.prog 3 #[.slice ca bs.length cc] w fun e w' => e = .returned (.bool true) ∧ Ext w w' := by
  have HT := Lib.hid hb
  have HC := Lib.hid h
  have hbl := h.1
  clear hb h
  go_enter Tryz.func3, Tryz.ntmps3
  go_wp2_with fail
  refine (big_c _ _ _ _ (by omega)).mono ?_
  rintro e w' ⟨t, rfl, rfl⟩
  cases t
  · go_wp2_with fail
    refine (DrawMatrixText_c _ _ _ _ HC.out).mono ?_
    rintro e w1 ⟨aM, cM, M, rfl, hM, hE1⟩
    obtain ⟨T, m1, ok1, hT, hr1, hr2, hcs⟩ := rdM_cases M
    have HVi := Lib.hid fun w h k => implMatrixText_c aM cM M w h k
    have HVs := Lib.hid fun w h => specMatrixText_c aM cM M w h
    rw [hT] at HVi HVs
    have hTl : T.length ≤ 899 := by have := matT_len M; rw [hT] at this; omega
    have HR1 := Lib.hid fun w h => (implReadMatrix_c T (by omega) w h).mono fun _ _ h => h.one
    rw [hr1, hr2] at HR1
    have HM := Lib.hid hM
    clear hr1 hr2 hT hM
    rcases hcs with ⟨rfl, rfl, hTn⟩ | ⟨rfl, rfl⟩
    · have t1 : (T == []) = false := by simpa using hTn
      have t2 : (T != []) = true := by simpa using hTn
      have t3 : T.isEmpty = false := by simpa using hTn
      clear hTn
      go_wp2_with fail
      refine (HVi.out _ HM.out (HT.out.ext hE1).1).mono ?_
      rintro e w2 ⟨rfl, hE2⟩
      have hE2' := hE1.trans hE2
      go_wp2_with fail
      refine (HR1.out _ (HT.out.ext hE2')).mono ?_
      rintro e w3 ⟨a3, c3, rfl, hO3, hE3⟩
      have HX3 := Lib.hid hO3.mat
      have hE3' := hE2'.trans hE3
      have hM3 := HM.out.mono (hE2.trans hE3)
      have HM3 := Lib.hid hM3
      go_wp2_with fail
      refine (DrawReadMatrix_c _ _ _ _ (HC.out.mono hE3')).mono ?_
      rintro e w4 ⟨l, rfl, hl, hE4⟩
      have hE4' := hE3'.trans hE4
      have HM4 := Lib.hid (HM3.out.mono hE4)
      have HX4 := Lib.hid (HX3.out.mono hE4)
      clear hE1 hE2 hE3 hE4 hE2' hE3' HR1 HVi HM HM3 HX3 hM3 hO3
      obtain ⟨m, ok, hr3, hr4, hbk⟩ := rdM_back l
      have HR2 := Lib.hid fun w h => (implReadMatrix_c l (by omega) w h).mono fun _ _ h => h.one
      have HS2 := Lib.hid fun w => (specReadMatrix_c l (by omega) w).mono fun _ _ h => h.one
      have HV2 := Lib.hid fun a c w h k => implMatrixText_c a c m w h k
      rw [hr3, hr4] at HR2 HS2
      clear hr3 hr4
      cases ok
      · clear hbk HV2
        go_wp2_with fail
        refine (HR2.out _ (HT.out.ext hE4')).mono ?_
        rintro e w5 ⟨a5, c5, rfl, hO5, hE5⟩
        have hE5' := hE4'.trans hE5
        go_wp2_with fail
        refine (HS2.out _).mono ?_
        rintro e w6 ⟨a6, c6, rfl, hO6, hE6⟩
        have hE6' := hE5'.trans hE6
        have HX6 := Lib.hid (HX4.out.mono (hE5.trans hE6))
        have HM6 := Lib.hid (HM4.out.mono (hE5.trans hE6))
        have HY6 := Lib.hid (hO5.mat.mono hE6)
        have HZ6 := Lib.hid hO6.mat
        clear hE4' hE5 hE6 hE5' hO5 hO6
        go_wp2_with fail
        refine (HVs.out _ HM6.out).mono ?_
        rintro e w7 ⟨rfl, hE7⟩
        have hE7' := hE6'.trans hE7
        have HX7 := Lib.hid (HX6.out.mono hE7)
        have HM7 := Lib.hid (HM6.out.mono hE7)
        have HY7 := Lib.hid (HY6.out.mono hE7)
        have HZ7 := Lib.hid (HZ6.out.mono hE7)
        clear hE6' hE7 HX6 HM6 HY6 HZ6
        go_wp2_with fail
        refine (asB (c := true) (by simp) (likeTables_c _ _ _ _ _ _ _ HX7.out HM7.out)).mono ?_
        rintro e w8 ⟨rfl, hq8⟩
        have hE8' := hE7'.qt hq8
        have HY8 := Lib.hid (HY7.out.mono hq8.ext)
        have HZ8 := Lib.hid (HZ7.out.mono hq8.ext)
        clear hE7' hq8
        go_wp2_with fail
        refine (asB (c := true) (by simp) (likeTables_c _ _ _ _ _ _ _ HY8.out HZ8.out)).mono ?_
        rintro e w9 ⟨rfl, hq9⟩
        have hE9' := hE8'.qt hq9
        have HY9 := Lib.hid (HY8.out.mono hq9.ext)
        clear hE8' hq9
        go_wp2
        go_ret
        exact ⟨rfl, hE9'⟩
      · rw [hbk rfl] at HV2
        clear hbk
        go_wp2_with fail
        refine (HR2.out _ (HT.out.ext hE4')).mono ?_
        rintro e w5 ⟨a5, c5, rfl, hO5, hE5⟩
        have hE5' := hE4'.trans hE5
        go_wp2_with fail
        refine (HS2.out _).mono ?_
        rintro e w6 ⟨a6, c6, rfl, hO6, hE6⟩
        have hE6' := hE5'.trans hE6
        have HX6 := Lib.hid (HX4.out.mono (hE5.trans hE6))
        have HM6 := Lib.hid (HM4.out.mono (hE5.trans hE6))
        have HY6 := Lib.hid (hO5.mat.mono hE6)
        have HZ6 := Lib.hid hO6.mat
        clear hE4' hE5 hE6 hE5' hO5 hO6
        go_wp2_with fail
        refine (HVs.out _ HM6.out).mono ?_
        rintro e w7 ⟨rfl, hE7⟩
        have hE7' := hE6'.trans hE7
        have HX7 := Lib.hid (HX6.out.mono hE7)
        have HM7 := Lib.hid (HM6.out.mono hE7)
        have HY7 := Lib.hid (HY6.out.mono hE7)
        have HZ7 := Lib.hid (HZ6.out.mono hE7)
        clear hE6' hE7 HX6 HM6 HY6 HZ6
        go_wp2_with fail
        refine (asB (c := true) (by simp) (likeTables_c _ _ _ _ _ _ _ HX7.out HM7.out)).mono ?_
        rintro e w8 ⟨rfl, hq8⟩
        have hE8' := hE7'.qt hq8
        have HY8 := Lib.hid (HY7.out.mono hq8.ext)
        have HZ8 := Lib.hid (HZ7.out.mono hq8.ext)
        clear hE7' hq8
        go_wp2_with fail
        refine (asB (c := true) (by simp) (likeTables_c _ _ _ _ _ _ _ HY8.out HZ8.out)).mono ?_
        rintro e w9 ⟨rfl, hq9⟩
        have hE9' := hE8'.qt hq9
        have HY9 := Lib.hid (HY8.out.mono hq9.ext)
        clear hE8' hq9
        go_wp2_with fail
        refine (HV2.out _ _ _ HY9.out (HT.out.ext hE9').1).mono ?_
        rintro e w10 ⟨rfl, hE10⟩
        go_wp2
        go_ret
        exact ⟨rfl, hE9'.trans hE10⟩
    · go_wp2_with fail
      refine (HVi.out _ HM.out (HT.out.ext hE1).1).mono ?_
      rintro e w2 ⟨rfl, hE2⟩
      have hE2' := hE1.trans hE2
      go_wp2_with fail
      refine (HR1.out _ (HT.out.ext hE2')).mono ?_
      rintro e w3 ⟨a3, c3, rfl, hO3, hE3⟩
      have HX3 := Lib.hid hO3.mat
      have hE3' := hE2'.trans hE3
      have hM3 := HM.out.mono (hE2.trans hE3)
      have HM3 := Lib.hid hM3
      go_wp2_with fail
      refine (DrawReadMatrix_c _ _ _ _ (HC.out.mono hE3')).mono ?_
      rintro e w4 ⟨l, rfl, hl, hE4⟩
      have hE4' := hE3'.trans hE4
      have HM4 := Lib.hid (HM3.out.mono hE4)
      have HX4 := Lib.hid (HX3.out.mono hE4)
      clear hE1 hE2 hE3 hE4 hE2' hE3' HR1 HVi HM HM3 HX3 hM3 hO3
      obtain ⟨m, ok, hr3, hr4, hbk⟩ := rdM_back l
      have HR2 := Lib.hid fun w h => (implReadMatrix_c l (by omega) w h).mono fun _ _ h => h.one
      have HS2 := Lib.hid fun w => (specReadMatrix_c l (by omega) w).mono fun _ _ h => h.one
      have HV2 := Lib.hid fun a c w h k => implMatrixText_c a c m w h k
      rw [hr3, hr4] at HR2 HS2
      clear hr3 hr4
      cases ok
      · clear hbk HV2
        go_wp2_with fail
        refine (HR2.out _ (HT.out.ext hE4')).mono ?_
        rintro e w5 ⟨a5, c5, rfl, hO5, hE5⟩
        have hE5' := hE4'.trans hE5
        go_wp2_with fail
        refine (HS2.out _).mono ?_
        rintro e w6 ⟨a6, c6, rfl, hO6, hE6⟩
        have hE6' := hE5'.trans hE6
        have HX6 := Lib.hid (HX4.out.mono (hE5.trans hE6))
        have HM6 := Lib.hid (HM4.out.mono (hE5.trans hE6))
        have HY6 := Lib.hid (hO5.mat.mono hE6)
        have HZ6 := Lib.hid hO6.mat
        clear hE4' hE5 hE6 hE5' hO5 hO6
        go_wp2_with fail
        refine (HVs.out _ HM6.out).mono ?_
        rintro e w7 ⟨rfl, hE7⟩
        have hE7' := hE6'.trans hE7
        have HX7 := Lib.hid (HX6.out.mono hE7)
        have HM7 := Lib.hid (HM6.out.mono hE7)
        have HY7 := Lib.hid (HY6.out.mono hE7)
        have HZ7 := Lib.hid (HZ6.out.mono hE7)
        clear hE6' hE7 HX6 HM6 HY6 HZ6
        obtain ⟨w8, rfl⟩ : ∃ w8, w8 = w7 := ⟨_, rfl⟩
        have hE8' := hE7'
        have HY8 := HY7
        have HZ8 := HZ7
        clear hE7'
        go_wp2_with fail
        refine (asB (c := true) (by simp) (likeTables_c _ _ _ _ _ _ _ HY8.out HZ8.out)).mono ?_
        rintro e w9 ⟨rfl, hq9⟩
        have hE9' := hE8'.qt hq9
        have HY9 := Lib.hid (HY8.out.mono hq9.ext)
        clear hE8' hq9
        go_wp2
        go_ret
        exact ⟨rfl, hE9'⟩
      · rw [hbk rfl] at HV2
        clear hbk
        go_wp2_with fail
        refine (HR2.out _ (HT.out.ext hE4')).mono ?_
        rintro e w5 ⟨a5, c5, rfl, hO5, hE5⟩
        have hE5' := hE4'.trans hE5
        go_wp2_with fail
        refine (HS2.out _).mono ?_
        rintro e w6 ⟨a6, c6, rfl, hO6, hE6⟩
        have hE6' := hE5'.trans hE6
        have HX6 := Lib.hid (HX4.out.mono (hE5.trans hE6))
        have HM6 := Lib.hid (HM4.out.mono (hE5.trans hE6))
        have HY6 := Lib.hid (hO5.mat.mono hE6)
        have HZ6 := Lib.hid hO6.mat
        clear hE4' hE5 hE6 hE5' hO5 hO6
        go_wp2_with fail
        refine (HVs.out _ HM6.out).mono ?_
        rintro e w7 ⟨rfl, hE7⟩
        have hE7' := hE6'.trans hE7
        have HX7 := Lib.hid (HX6.out.mono hE7)
        have HM7 := Lib.hid (HM6.out.mono hE7)
        have HY7 := Lib.hid (HY6.out.mono hE7)
        have HZ7 := Lib.hid (HZ6.out.mono hE7)
        clear hE6' hE7 HX6 HM6 HY6 HZ6
        obtain ⟨w8, rfl⟩ : ∃ w8, w8 = w7 := ⟨_, rfl⟩
        have hE8' := hE7'
        have HY8 := HY7
        have HZ8 := HZ7
        clear hE7'
        go_wp2_with fail
        refine (asB (c := true) (by simp) (likeTables_c _ _ _ _ _ _ _ HY8.out HZ8.out)).mono ?_
        rintro e w9 ⟨rfl, hq9⟩
        have hE9' := hE8'.qt hq9
        have HY9 := Lib.hid (HY8.out.mono hq9.ext)
        clear hE8' hq9
        go_wp2_with fail
        refine (HV2.out _ _ _ HY9.out (HT.out.ext hE9').1).mono ?_
        rintro e w10 ⟨rfl, hE10⟩
        go_wp2
        go_ret
        exact ⟨rfl, hE9'.trans hE10⟩
  · go_wp2
    go_ret
    exact ⟨rfl, Ext.refl _⟩
end Go.Proofs.YtkipbfjkcdccjaaGreatDoor
