/- The walks of laws over products. The arguments fit int64. -/
import Derived.Test.YtkfpcbafhgolnaaE3
import Derived.Test.YtkfpcbafhgolnaaH3
namespace Go.Proofs.Ytkfpcbafhgolnaa
set_option linter.unusedVariables false
open Go.RowKit

set_option maxHeartbeats 2000000 in
theorem FnExactMultiplyMatrices_walk {w : World} (a0 : Option Addr) (cap0 : Nat) (xs0 : List (List Int)) (h0 : MatAt w a0 xs0) (hb0 : MBd xs0) (a1 : Option Addr) (cap1 : Nat) (xs1 : List (List Int)) (h1 : MatAt w a1 xs1) (hb1 : MBd xs1) :
    Calls Try.prog 13 #[.slice a0 xs0.length cap0, .slice a1 xs1.length cap1] w fun e w' => e = .returned (.bool true) ∧ Ext w w' := by
  have hV : tot (mulV xs0 xs1).1 ≤ 1000000 := mulV_tot _ _
  have X0 := Ext.refl w
  by_cases hs0 : (1048576 - xs0.length - tot xs0 : Int) < 0
  · go_enter Try.func13, Try.ntmps13
    go_wp2_with fail
    refine (szM_c _ _ _ _ _ (h0.mono X0) (by omega) (by omega)).mono ?_
    rintro e w' ⟨rfl, hq⟩
    rw [if_pos hs0]
    go_wp2
    go_ret
    exact ⟨rfl, X0.qt hq⟩
  have hnn0 : 0 ≤ (1048576 - xs0.length - tot xs0 : Int) := by omega
  have hl0 : xs0.length ≤ 1048576 := by omega
  have hr0 : ∀ i, i < xs0.length → (row xs0 i).length ≤ 1048576 := fun i hi => by have := len_le_tot xs0 i hi; omega
  have ht0 : tot xs0 ≤ 1048576 := by omega
  replace hr0 := Lib.hid hr0
  clear hs0
  by_cases hs1 : (1048576 - xs0.length - tot xs0 - xs1.length - tot xs1 : Int) < 0
  · go_enter Try.func13, Try.ntmps13
    go_wp2_with fail
    refine (szM_c _ _ _ _ _ (h0.mono X0) (by omega) (by omega)).mono ?_
    rintro e w1 ⟨rfl, hq⟩
    rw [if_neg (Int.not_lt.2 hnn0)]
    replace X0 := X0.qt hq
    clear hq
    go_wp2_with fail
    refine (szM_c _ _ _ _ _ (h1.mono X0) (by omega) (by omega)).mono ?_
    rintro e w' ⟨rfl, hq⟩
    rw [if_pos hs1]
    go_wp2
    go_ret
    exact ⟨rfl, X0.qt hq⟩
  have hnn1 : 0 ≤ (1048576 - xs0.length - tot xs0 - xs1.length - tot xs1 : Int) := by omega
  have hl1 : xs1.length ≤ 1048576 := by omega
  have hr1 : ∀ i, i < xs1.length → (row xs1 i).length ≤ 1048576 := fun i hi => by have := len_le_tot xs1 i hi; omega
  have ht1 : tot xs1 ≤ 1048576 := by omega
  replace hr1 := Lib.hid hr1
  clear hs1
  go_enter Try.func13, Try.ntmps13
  go_wp2_with fail
  refine (szM_c _ _ _ _ _ (h0.mono X0) (by omega) (by omega)).mono ?_
  rintro e W2 ⟨rfl, q1⟩
  rw [if_neg (Int.not_lt.2 hnn0)]
  replace q1 := q1.ext
  have z3 := q1.size
  have X4 := X0.trans q1
  clear X0
  clear q1
  go_wp2_with fail
  refine (szM_c _ _ _ _ _ (h1.mono X4) (by omega) (by omega)).mono ?_
  rintro e W6 ⟨rfl, q5⟩
  rw [if_neg (Int.not_lt.2 hnn1)]
  replace q5 := q5.ext
  have z7 := q5.size
  have X8 := X4.trans q5
  clear X4
  clear q5
  go_wp2_with fail
  refine (toM_c _ _ _ _ (h0.mono X8) hl0 hr0.out).mono ?_
  rintro e W11 ⟨p12, c13, rfl, o10, E9⟩
  replace o10 := HasM.of o10
  have z14 := E9.size
  have X15 := X8.trans E9
  clear X8
  clear E9
  go_wp2_with fail
  refine (toM_c _ _ _ _ (h1.mono X15) hl1 hr1.out).mono ?_
  rintro e W18 ⟨p19, c20, rfl, o17, E16⟩
  replace o17 := HasM.of o17
  have z21 := E16.size
  have X22 := X15.trans E16
  clear X15
  replace o10 := o10.ext E16
  clear E16
  go_wp2_with fail
  refine (specMul_c _ _ _ _ _ _ _ o10.mat o17.mat).mono ?_
  rintro e W23 ⟨p26, c27, rfl, o25, E24⟩
  replace o25 := HasM.of o25
  have z28 := E24.size
  have X29 := X22.trans E24
  clear X22
  replace o10 := o10.ext E24
  replace o17 := o17.ext E24
  clear E24
  clear o10
  clear o17
  go_wp2_with fail
  refine (toM_c _ _ _ _ (h0.mono X29) hl0 hr0.out).mono ?_
  rintro e W32 ⟨p33, c34, rfl, o31, E30⟩
  replace o31 := HasM.of o31
  have z35 := E30.size
  have X36 := X29.trans E30
  clear X29
  replace o25 := o25.ext E30
  clear E30
  go_wp2_with fail
  refine (toM_c _ _ _ _ (h1.mono X36) hl1 hr1.out).mono ?_
  rintro e W39 ⟨p40, c41, rfl, o38, E37⟩
  replace o38 := HasM.of o38
  have z42 := E37.size
  have X43 := X36.trans E37
  clear X36
  replace o25 := o25.ext E37
  replace o31 := o31.ext E37
  clear E37
  go_wp2_with fail
  refine (implMul_c _ _ _ _ _ _ _ o31.mat o38.mat).mono ?_
  rintro e W44 ⟨p47, c48, rfl, o46, E45⟩
  replace o46 := HasM.of o46
  have z49 := E45.size
  have X50 := X43.trans E45
  clear X43
  replace o25 := o25.ext E45
  replace o31 := o31.ext E45
  replace o38 := o38.ext E45
  clear E45
  go_wp2_with fail
  refine (asB (c := true) (by simp) (eqM_c _ _ _ _ _ _ _ o46.mat o25.mat)).mono ?_
  rintro e W52 ⟨rfl, q51⟩
  replace q51 := q51.ext
  have z53 := q51.size
  have X54 := X50.trans q51
  clear X50
  replace o25 := o25.ext q51
  replace o31 := o31.ext q51
  replace o38 := o38.ext q51
  replace o46 := o46.ext q51
  clear q51
  go_wp2_with fail
  refine (toM_c _ _ _ _ (h0.mono X54) hl0 hr0.out).mono ?_
  rintro e W57 ⟨p58, c59, rfl, o56, E55⟩
  replace o56 := HasM.of o56
  have z60 := E55.size
  have X61 := X54.trans E55
  clear X54
  replace o25 := o25.ext E55
  replace o31 := o31.ext E55
  replace o38 := o38.ext E55
  replace o46 := o46.ext E55
  clear E55
  go_wp2_with fail
  refine (asB (c := true) (by simp) (eqM_c _ _ _ _ _ _ _ o31.mat o56.mat)).mono ?_
  rintro e W63 ⟨rfl, q62⟩
  replace q62 := q62.ext
  have z64 := q62.size
  have X65 := X61.trans q62
  clear X61
  replace o25 := o25.ext q62
  replace o31 := o31.ext q62
  replace o38 := o38.ext q62
  replace o46 := o46.ext q62
  replace o56 := o56.ext q62
  clear q62
  clear o56
  go_wp2_with fail
  refine (toM_c _ _ _ _ (h1.mono X65) hl1 hr1.out).mono ?_
  rintro e W68 ⟨p69, c70, rfl, o67, E66⟩
  replace o67 := HasM.of o67
  have z71 := E66.size
  have X72 := X65.trans E66
  clear X65
  replace o25 := o25.ext E66
  replace o31 := o31.ext E66
  replace o38 := o38.ext E66
  replace o46 := o46.ext E66
  clear E66
  go_wp2_with fail
  refine (asB (c := true) (by simp) (eqM_c _ _ _ _ _ _ _ o38.mat o67.mat)).mono ?_
  rintro e W74 ⟨rfl, q73⟩
  replace q73 := q73.ext
  have z75 := q73.size
  have X76 := X72.trans q73
  clear X72
  replace o25 := o25.ext q73
  replace o31 := o31.ext q73
  replace o38 := o38.ext q73
  replace o46 := o46.ext q73
  replace o67 := o67.ext q73
  clear q73
  clear o67
  go_wp2_with fail
  refine (markMH_c _ _ _ _ _ _ _ o31 (by omega) (by omega)).mono ?_
  rintro e W77 ⟨rfl, o79, C78⟩
  clear o31
  have z80 := Nat.le_of_eq C78.size.symm
  have X81 := X76.chgT C78 (by omega)
  clear X76
  replace o25 := o25.chg C78 (by omega)
  replace o38 := o38.chg C78 (by omega)
  replace o46 := o46.chg C78 (by omega)
  clear C78
  clear o79
  go_wp2_with fail
  refine (markMH_c _ _ _ _ _ _ _ o38 (by omega) (by omega)).mono ?_
  rintro e W82 ⟨rfl, o84, C83⟩
  clear o38
  have z85 := Nat.le_of_eq C83.size.symm
  have X86 := X81.chgT C83 (by omega)
  clear X81
  replace o25 := o25.chg C83 (by omega)
  replace o46 := o46.chg C83 (by omega)
  clear C83
  clear o84
  go_wp2_with fail
  refine (asB (c := true) (by simp) (eqM_c _ _ _ _ _ _ _ o46.mat o25.mat)).mono ?_
  rintro e W88 ⟨rfl, q87⟩
  replace q87 := q87.ext
  have z89 := q87.size
  have X90 := X86.trans q87
  clear X86
  replace o25 := o25.ext q87
  replace o46 := o46.ext q87
  clear q87
  go_wp2_with fail
  refine (markMH_c _ _ _ _ _ _ _ o46 (by omega) (by omega)).mono ?_
  rintro e W91 ⟨rfl, o93, C92⟩
  clear o46
  have z94 := Nat.le_of_eq C92.size.symm
  have X95 := X90.chgT C92 (by omega)
  clear X90
  replace o25 := o25.chg C92 (by omega)
  clear C92
  go_wp2_with fail
  refine (heldM_c _ _ _ _ _ o93.mat (by omega) (by omega)).mono ?_
  rintro e W96 ⟨rfl, q97⟩
  replace q97 := q97.ext
  have z98 := q97.size
  have X99 := X95.trans q97
  clear X95
  replace o25 := o25.ext q97
  replace o93 := o93.ext q97
  clear q97
  go_wp2_with fail
  refine (toM_c _ _ _ _ (h0.mono X99) hl0 hr0.out).mono ?_
  rintro e W102 ⟨p103, c104, rfl, o101, E100⟩
  replace o101 := HasM.of o101
  have z105 := E100.size
  have X106 := X99.trans E100
  clear X99
  replace o25 := o25.ext E100
  replace o93 := o93.ext E100
  clear E100
  go_wp2_with fail
  refine (toM_c _ _ _ _ (h1.mono X106) hl1 hr1.out).mono ?_
  rintro e W109 ⟨p110, c111, rfl, o108, E107⟩
  replace o108 := HasM.of o108
  have z112 := E107.size
  have X113 := X106.trans E107
  clear X106
  replace o25 := o25.ext E107
  replace o93 := o93.ext E107
  replace o101 := o101.ext E107
  clear E107
  go_wp2_with fail
  refine (implMul_c _ _ _ _ _ _ _ o101.mat o108.mat).mono ?_
  rintro e W114 ⟨p117, c118, rfl, o116, E115⟩
  replace o116 := HasM.of o116
  have z119 := E115.size
  have X120 := X113.trans E115
  clear X113
  replace o25 := o25.ext E115
  replace o93 := o93.ext E115
  replace o101 := o101.ext E115
  replace o108 := o108.ext E115
  clear E115
  clear o101
  clear o108
  go_wp2_with fail
  refine (asB (c := true) (by simp) (eqM_c _ _ _ _ _ _ _ o116.mat o25.mat)).mono ?_
  rintro e W122 ⟨rfl, q121⟩
  replace q121 := q121.ext
  have z123 := q121.size
  have X124 := X120.trans q121
  clear X120
  replace o25 := o25.ext q121
  replace o93 := o93.ext q121
  replace o116 := o116.ext q121
  clear q121
  clear o116
  clear o25
  go_wp2_with fail
  refine (heldM_c _ _ _ _ _ o93.mat (by omega) (by omega)).mono ?_
  rintro e W125 ⟨rfl, q126⟩
  replace q126 := q126.ext
  have z127 := q126.size
  have X128 := X124.trans q126
  clear X124
  replace o93 := o93.ext q126
  clear q126
  clear o93
  go_wp2
  go_ret
  exact ⟨rfl, X128⟩

set_option maxHeartbeats 2000000 in
theorem FnExactTimesVector_walk {w : World} (a0 : Option Addr) (cap0 : Nat) (xs0 : List (List Int)) (h0 : MatAt w a0 xs0) (hb0 : MBd xs0) (a1 : Option Addr) (cap1 : Nat) (xs1 : List Int) (h1 : IntsAt w a1 xs1) (hb1 : IBd xs1) :
    Calls Try.prog 7 #[.slice a0 xs0.length cap0, .slice a1 xs1.length cap1] w fun e w' => e = .returned (.bool true) ∧ Ext w w' := by
  have hV : (appV xs0 xs1).1.length ≤ 1000000 := appV_len _ _
  have hlen1 := h1.len
  by_cases hs1 : 1048576 < xs1.length
  · go_enter Try.func7, Try.ntmps7
    go_wp2
    go_ret
    exact ⟨rfl, Ext.refl _⟩
  have hl1 : xs1.length ≤ 1048576 := by omega
  have X0 := Ext.refl w
  by_cases hs0 : (1048576 - xs0.length - tot xs0 : Int) < 0
  · go_enter Try.func7, Try.ntmps7
    go_wp2_with fail
    refine (szM_c _ _ _ _ _ (h0.mono X0) (by omega) (by omega)).mono ?_
    rintro e w' ⟨rfl, hq⟩
    rw [if_pos hs0]
    go_wp2
    go_ret
    exact ⟨rfl, X0.qt hq⟩
  have hnn0 : 0 ≤ (1048576 - xs0.length - tot xs0 : Int) := by omega
  have hl0 : xs0.length ≤ 1048576 := by omega
  have hr0 : ∀ i, i < xs0.length → (row xs0 i).length ≤ 1048576 := fun i hi => by have := len_le_tot xs0 i hi; omega
  have ht0 : tot xs0 ≤ 1048576 := by omega
  replace hr0 := Lib.hid hr0
  clear hs0
  go_enter Try.func7, Try.ntmps7
  go_wp2_with fail
  refine (szM_c _ _ _ _ _ (h0.mono X0) (by omega) (by omega)).mono ?_
  rintro e W2 ⟨rfl, q1⟩
  rw [if_neg (Int.not_lt.2 hnn0)]
  replace q1 := q1.ext
  have z3 := q1.size
  have X4 := X0.trans q1
  clear X0
  clear q1
  go_wp2_with fail
  refine (toM_c _ _ _ _ (h0.mono X4) hl0 hr0.out).mono ?_
  rintro e W7 ⟨p8, c9, rfl, o6, E5⟩
  replace o6 := HasM.of o6
  have z10 := E5.size
  have X11 := X4.trans E5
  clear X4
  clear E5
  go_wp2_with fail
  refine (toI_c _ _ _ _ (h1.mono X11) hl1).mono ?_
  rintro e W14 ⟨p15, c16, rfl, o13, E12⟩
  replace o13 := HasI.of o13
  have z17 := E12.size
  have X18 := X11.trans E12
  clear X11
  replace o6 := o6.ext E12
  clear E12
  go_wp2_with fail
  refine (specApp_c _ _ _ _ _ _ _ o6.mat o13.ints).mono ?_
  rintro e W19 ⟨p22, c23, rfl, o21, E20⟩
  replace o21 := HasI.of o21
  have z24 := E20.size
  have X25 := X18.trans E20
  clear X18
  replace o6 := o6.ext E20
  replace o13 := o13.ext E20
  clear E20
  clear o6
  clear o13
  go_wp2_with fail
  refine (toM_c _ _ _ _ (h0.mono X25) hl0 hr0.out).mono ?_
  rintro e W28 ⟨p29, c30, rfl, o27, E26⟩
  replace o27 := HasM.of o27
  have z31 := E26.size
  have X32 := X25.trans E26
  clear X25
  replace o21 := o21.ext E26
  clear E26
  go_wp2_with fail
  refine (toI_c _ _ _ _ (h1.mono X32) hl1).mono ?_
  rintro e W35 ⟨p36, c37, rfl, o34, E33⟩
  replace o34 := HasI.of o34
  have z38 := E33.size
  have X39 := X32.trans E33
  clear X32
  replace o21 := o21.ext E33
  replace o27 := o27.ext E33
  clear E33
  go_wp2_with fail
  refine (implApp_c _ _ _ _ _ _ _ o27.mat o34.ints).mono ?_
  rintro e W40 ⟨p43, c44, rfl, o42, E41⟩
  replace o42 := HasI.of o42
  have z45 := E41.size
  have X46 := X39.trans E41
  clear X39
  replace o21 := o21.ext E41
  replace o27 := o27.ext E41
  replace o34 := o34.ext E41
  clear E41
  go_wp2_with fail
  refine (asB (c := true) (by simp) (eqI_c _ _ _ _ _ _ _ o42.ints o21.ints)).mono ?_
  rintro e W48 ⟨rfl, q47⟩
  replace q47 := q47.ext
  have z49 := q47.size
  have X50 := X46.trans q47
  clear X46
  replace o21 := o21.ext q47
  replace o27 := o27.ext q47
  replace o34 := o34.ext q47
  replace o42 := o42.ext q47
  clear q47
  go_wp2_with fail
  refine (toM_c _ _ _ _ (h0.mono X50) hl0 hr0.out).mono ?_
  rintro e W53 ⟨p54, c55, rfl, o52, E51⟩
  replace o52 := HasM.of o52
  have z56 := E51.size
  have X57 := X50.trans E51
  clear X50
  replace o21 := o21.ext E51
  replace o27 := o27.ext E51
  replace o34 := o34.ext E51
  replace o42 := o42.ext E51
  clear E51
  go_wp2_with fail
  refine (asB (c := true) (by simp) (eqM_c _ _ _ _ _ _ _ o27.mat o52.mat)).mono ?_
  rintro e W59 ⟨rfl, q58⟩
  replace q58 := q58.ext
  have z60 := q58.size
  have X61 := X57.trans q58
  clear X57
  replace o21 := o21.ext q58
  replace o27 := o27.ext q58
  replace o34 := o34.ext q58
  replace o42 := o42.ext q58
  replace o52 := o52.ext q58
  clear q58
  clear o52
  go_wp2_with fail
  refine (toI_c _ _ _ _ (h1.mono X61) hl1).mono ?_
  rintro e W64 ⟨p65, c66, rfl, o63, E62⟩
  replace o63 := HasI.of o63
  have z67 := E62.size
  have X68 := X61.trans E62
  clear X61
  replace o21 := o21.ext E62
  replace o27 := o27.ext E62
  replace o34 := o34.ext E62
  replace o42 := o42.ext E62
  clear E62
  go_wp2_with fail
  refine (asB (c := true) (by simp) (eqI_c _ _ _ _ _ _ _ o34.ints o63.ints)).mono ?_
  rintro e W70 ⟨rfl, q69⟩
  replace q69 := q69.ext
  have z71 := q69.size
  have X72 := X68.trans q69
  clear X68
  replace o21 := o21.ext q69
  replace o27 := o27.ext q69
  replace o34 := o34.ext q69
  replace o42 := o42.ext q69
  replace o63 := o63.ext q69
  clear q69
  clear o63
  go_wp2_with fail
  refine (markMH_c _ _ _ _ _ _ _ o27 (by omega) (by omega)).mono ?_
  rintro e W73 ⟨rfl, o75, C74⟩
  clear o27
  have z76 := Nat.le_of_eq C74.size.symm
  have X77 := X72.chgT C74 (by omega)
  clear X72
  replace o21 := o21.chg C74 (by omega)
  replace o34 := o34.chg C74 (by omega)
  replace o42 := o42.chg C74 (by omega)
  clear C74
  clear o75
  go_wp2_with fail
  refine (markIH_c _ _ _ _ _ _ _ o34 (by omega) (by omega)).mono ?_
  rintro e W78 ⟨rfl, o80, C79⟩
  clear o34
  have z81 := Nat.le_of_eq C79.size.symm
  have X82 := X77.chgT C79 (by omega)
  clear X77
  replace o21 := o21.chg C79 (by omega)
  replace o42 := o42.chg C79 (by omega)
  clear C79
  clear o80
  go_wp2_with fail
  refine (asB (c := true) (by simp) (eqI_c _ _ _ _ _ _ _ o42.ints o21.ints)).mono ?_
  rintro e W84 ⟨rfl, q83⟩
  replace q83 := q83.ext
  have z85 := q83.size
  have X86 := X82.trans q83
  clear X82
  replace o21 := o21.ext q83
  replace o42 := o42.ext q83
  clear q83
  go_wp2_with fail
  refine (markIH_c _ _ _ _ _ _ _ o42 (by omega) (by omega)).mono ?_
  rintro e W87 ⟨rfl, o89, C88⟩
  clear o42
  have z90 := Nat.le_of_eq C88.size.symm
  have X91 := X86.chgT C88 (by omega)
  clear X86
  replace o21 := o21.chg C88 (by omega)
  clear C88
  go_wp2_with fail
  refine (heldI_c _ _ _ _ _ o89.ints (by omega) (by omega)).mono ?_
  rintro e W92 ⟨rfl, q93⟩
  replace q93 := q93.ext
  have z94 := q93.size
  have X95 := X91.trans q93
  clear X91
  replace o21 := o21.ext q93
  replace o89 := o89.ext q93
  clear q93
  go_wp2_with fail
  refine (toM_c _ _ _ _ (h0.mono X95) hl0 hr0.out).mono ?_
  rintro e W98 ⟨p99, c100, rfl, o97, E96⟩
  replace o97 := HasM.of o97
  have z101 := E96.size
  have X102 := X95.trans E96
  clear X95
  replace o21 := o21.ext E96
  replace o89 := o89.ext E96
  clear E96
  go_wp2_with fail
  refine (toI_c _ _ _ _ (h1.mono X102) hl1).mono ?_
  rintro e W105 ⟨p106, c107, rfl, o104, E103⟩
  replace o104 := HasI.of o104
  have z108 := E103.size
  have X109 := X102.trans E103
  clear X102
  replace o21 := o21.ext E103
  replace o89 := o89.ext E103
  replace o97 := o97.ext E103
  clear E103
  go_wp2_with fail
  refine (implApp_c _ _ _ _ _ _ _ o97.mat o104.ints).mono ?_
  rintro e W110 ⟨p113, c114, rfl, o112, E111⟩
  replace o112 := HasI.of o112
  have z115 := E111.size
  have X116 := X109.trans E111
  clear X109
  replace o21 := o21.ext E111
  replace o89 := o89.ext E111
  replace o97 := o97.ext E111
  replace o104 := o104.ext E111
  clear E111
  clear o97
  clear o104
  go_wp2_with fail
  refine (asB (c := true) (by simp) (eqI_c _ _ _ _ _ _ _ o112.ints o21.ints)).mono ?_
  rintro e W118 ⟨rfl, q117⟩
  replace q117 := q117.ext
  have z119 := q117.size
  have X120 := X116.trans q117
  clear X116
  replace o21 := o21.ext q117
  replace o89 := o89.ext q117
  replace o112 := o112.ext q117
  clear q117
  clear o112
  clear o21
  go_wp2_with fail
  refine (heldI_c _ _ _ _ _ o89.ints (by omega) (by omega)).mono ?_
  rintro e W121 ⟨rfl, q122⟩
  replace q122 := q122.ext
  have z123 := q122.size
  have X124 := X120.trans q122
  clear X120
  replace o89 := o89.ext q122
  clear q122
  clear o89
  go_wp2
  go_ret
  exact ⟨rfl, X124⟩

end Go.Proofs.Ytkfpcbafhgolnaa
