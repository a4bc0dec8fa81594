/- The walks of laws over matrices. The arguments fit int64. -/
import Derived.Test.YtcgfhmkcopigbaaE2
import Derived.Test.YtcgfhmkcopigbaaH3
namespace Go.Proofs.Ytcgfhmkcopigbaa
set_option linter.unusedVariables false
open Go.RowKit

set_option maxHeartbeats 2000000 in
theorem FnExactUnitMatrix_walk {w : World} (a0 : Int) (ha0 : -9223372036854775808 ≤ a0 ∧ a0 ≤ 9223372036854775807) :
    Calls Try.prog 4 #[.int .i64 a0] w fun e w' => e = .returned (.bool true) ∧ Ext w w' := by
  have hV : tot (unitV a0).1 ≤ 1000000 := unitV_tot _
  have X0 := Ext.refl w
  go_enter Try.func4, Try.ntmps4
  go_wp2_with fail
  refine (specUnit_c _ _).mono ?_
  rintro e W1 ⟨p4, c5, rfl, o3, E2⟩
  replace o3 := HasM.of o3
  have z6 := E2.size
  have X7 := X0.trans E2
  clear X0
  clear E2
  go_wp2_with fail
  refine (implUnit_c _ _).mono ?_
  rintro e W8 ⟨p11, c12, rfl, o10, E9⟩
  replace o10 := HasM.of o10
  have z13 := E9.size
  have X14 := X7.trans E9
  clear X7
  replace o3 := o3.ext E9
  clear E9
  go_wp2_with fail
  refine (asB (c := true) (by simp) (eqM_c _ _ _ _ _ _ _ o10.mat o3.mat)).mono ?_
  rintro e W16 ⟨rfl, q15⟩
  replace q15 := q15.ext
  have z17 := q15.size
  have X18 := X14.trans q15
  clear X14
  replace o3 := o3.ext q15
  replace o10 := o10.ext q15
  clear q15
  go_wp2_with fail
  refine (markMH_c _ _ _ _ _ _ _ o10 (by omega) (by omega)).mono ?_
  rintro e W19 ⟨rfl, o21, C20⟩
  clear o10
  have z22 := Nat.le_of_eq C20.size.symm
  have X23 := X18.chgT C20 (by omega)
  clear X18
  replace o3 := o3.chg C20 (by omega)
  clear C20
  go_wp2_with fail
  refine (heldM_c _ _ _ _ _ o21.mat (by omega) (by omega)).mono ?_
  rintro e W24 ⟨rfl, q25⟩
  replace q25 := q25.ext
  have z26 := q25.size
  have X27 := X23.trans q25
  clear X23
  replace o3 := o3.ext q25
  replace o21 := o21.ext q25
  clear q25
  go_wp2_with fail
  refine (implUnit_c _ _).mono ?_
  rintro e W28 ⟨p31, c32, rfl, o30, E29⟩
  replace o30 := HasM.of o30
  have z33 := E29.size
  have X34 := X27.trans E29
  clear X27
  replace o3 := o3.ext E29
  replace o21 := o21.ext E29
  clear E29
  go_wp2_with fail
  refine (asB (c := true) (by simp) (eqM_c _ _ _ _ _ _ _ o30.mat o3.mat)).mono ?_
  rintro e W36 ⟨rfl, q35⟩
  replace q35 := q35.ext
  have z37 := q35.size
  have X38 := X34.trans q35
  clear X34
  replace o3 := o3.ext q35
  replace o21 := o21.ext q35
  replace o30 := o30.ext q35
  clear q35
  clear o30
  clear o3
  go_wp2_with fail
  refine (heldM_c _ _ _ _ _ o21.mat (by omega) (by omega)).mono ?_
  rintro e W39 ⟨rfl, q40⟩
  replace q40 := q40.ext
  have z41 := q40.size
  have X42 := X38.trans q40
  clear X38
  replace o21 := o21.ext q40
  clear q40
  clear o21
  go_wp2
  go_ret
  exact ⟨rfl, X42⟩

set_option maxHeartbeats 2000000 in
theorem FnExactTransposeMatrix_walk {w : World} (a0 : Option Addr) (cap0 : Nat) (xs0 : List (List Int)) (h0 : MatAt w a0 xs0) (hb0 : MBd xs0) :
    Calls Try.prog 10 #[.slice a0 xs0.length cap0] w fun e w' => e = .returned (.bool true) ∧ Ext w w' := by
  have hV : tot (transV xs0).1 ≤ 1000000 := transV_tot _
  have X0 := Ext.refl w
  by_cases hs0 : (1048576 - xs0.length - tot xs0 : Int) < 0
  · go_enter Try.func10, Try.ntmps10
    go_wp2_with fail
    refine (szM_c _ _ _ _ _ (h0.mono X0) (by omega) (by omega)).mono ?_
    rintro e w' ⟨rfl, hq⟩
    rw [if_pos hs0]
    go_wp2
    go_ret
    exact ⟨rfl, X0.qt hq⟩
  have hnn0 : 0 ≤ (1048576 - xs0.length - tot xs0 : Int) := by omega
  have hl0 : xs0.length ≤ 1048576 := by omega
  have hr0 : ∀ i, i < xs0.length → (row xs0 i).length ≤ 1048576 := fun i hi => by have := len_le_tot xs0 i hi; omega
  have ht0 : tot xs0 ≤ 1048576 := by omega
  replace hr0 := Lib.hid hr0
  clear hs0
  go_enter Try.func10, Try.ntmps10
  go_wp2_with fail
  refine (szM_c _ _ _ _ _ (h0.mono X0) (by omega) (by omega)).mono ?_
  rintro e W2 ⟨rfl, q1⟩
  rw [if_neg (Int.not_lt.2 hnn0)]
  replace q1 := q1.ext
  have z3 := q1.size
  have X4 := X0.trans q1
  clear X0
  clear q1
  go_wp2_with fail
  refine (toM_c _ _ _ _ (h0.mono X4) hl0 hr0.out).mono ?_
  rintro e W7 ⟨p8, c9, rfl, o6, E5⟩
  replace o6 := HasM.of o6
  have z10 := E5.size
  have X11 := X4.trans E5
  clear X4
  clear E5
  go_wp2_with fail
  refine (specTrans_c _ _ _ _ o6.mat).mono ?_
  rintro e W12 ⟨p15, c16, rfl, o14, E13⟩
  replace o14 := HasM.of o14
  have z17 := E13.size
  have X18 := X11.trans E13
  clear X11
  replace o6 := o6.ext E13
  clear E13
  clear o6
  go_wp2_with fail
  refine (toM_c _ _ _ _ (h0.mono X18) hl0 hr0.out).mono ?_
  rintro e W21 ⟨p22, c23, rfl, o20, E19⟩
  replace o20 := HasM.of o20
  have z24 := E19.size
  have X25 := X18.trans E19
  clear X18
  replace o14 := o14.ext E19
  clear E19
  go_wp2_with fail
  refine (implTrans_c _ _ _ _ o20.mat).mono ?_
  rintro e W26 ⟨p29, c30, rfl, o28, E27⟩
  replace o28 := HasM.of o28
  have z31 := E27.size
  have X32 := X25.trans E27
  clear X25
  replace o14 := o14.ext E27
  replace o20 := o20.ext E27
  clear E27
  go_wp2_with fail
  refine (asB (c := true) (by simp) (eqM_c _ _ _ _ _ _ _ o28.mat o14.mat)).mono ?_
  rintro e W34 ⟨rfl, q33⟩
  replace q33 := q33.ext
  have z35 := q33.size
  have X36 := X32.trans q33
  clear X32
  replace o14 := o14.ext q33
  replace o20 := o20.ext q33
  replace o28 := o28.ext q33
  clear q33
  go_wp2_with fail
  refine (toM_c _ _ _ _ (h0.mono X36) hl0 hr0.out).mono ?_
  rintro e W39 ⟨p40, c41, rfl, o38, E37⟩
  replace o38 := HasM.of o38
  have z42 := E37.size
  have X43 := X36.trans E37
  clear X36
  replace o14 := o14.ext E37
  replace o20 := o20.ext E37
  replace o28 := o28.ext E37
  clear E37
  go_wp2_with fail
  refine (asB (c := true) (by simp) (eqM_c _ _ _ _ _ _ _ o20.mat o38.mat)).mono ?_
  rintro e W45 ⟨rfl, q44⟩
  replace q44 := q44.ext
  have z46 := q44.size
  have X47 := X43.trans q44
  clear X43
  replace o14 := o14.ext q44
  replace o20 := o20.ext q44
  replace o28 := o28.ext q44
  replace o38 := o38.ext q44
  clear q44
  clear o38
  go_wp2_with fail
  refine (markMH_c _ _ _ _ _ _ _ o20 (by omega) (by omega)).mono ?_
  rintro e W48 ⟨rfl, o50, C49⟩
  clear o20
  have z51 := Nat.le_of_eq C49.size.symm
  have X52 := X47.chgT C49 (by omega)
  clear X47
  replace o14 := o14.chg C49 (by omega)
  replace o28 := o28.chg C49 (by omega)
  clear C49
  clear o50
  go_wp2_with fail
  refine (asB (c := true) (by simp) (eqM_c _ _ _ _ _ _ _ o28.mat o14.mat)).mono ?_
  rintro e W54 ⟨rfl, q53⟩
  replace q53 := q53.ext
  have z55 := q53.size
  have X56 := X52.trans q53
  clear X52
  replace o14 := o14.ext q53
  replace o28 := o28.ext q53
  clear q53
  go_wp2_with fail
  refine (markMH_c _ _ _ _ _ _ _ o28 (by omega) (by omega)).mono ?_
  rintro e W57 ⟨rfl, o59, C58⟩
  clear o28
  have z60 := Nat.le_of_eq C58.size.symm
  have X61 := X56.chgT C58 (by omega)
  clear X56
  replace o14 := o14.chg C58 (by omega)
  clear C58
  go_wp2_with fail
  refine (heldM_c _ _ _ _ _ o59.mat (by omega) (by omega)).mono ?_
  rintro e W62 ⟨rfl, q63⟩
  replace q63 := q63.ext
  have z64 := q63.size
  have X65 := X61.trans q63
  clear X61
  replace o14 := o14.ext q63
  replace o59 := o59.ext q63
  clear q63
  go_wp2_with fail
  refine (toM_c _ _ _ _ (h0.mono X65) hl0 hr0.out).mono ?_
  rintro e W68 ⟨p69, c70, rfl, o67, E66⟩
  replace o67 := HasM.of o67
  have z71 := E66.size
  have X72 := X65.trans E66
  clear X65
  replace o14 := o14.ext E66
  replace o59 := o59.ext E66
  clear E66
  go_wp2_with fail
  refine (implTrans_c _ _ _ _ o67.mat).mono ?_
  rintro e W73 ⟨p76, c77, rfl, o75, E74⟩
  replace o75 := HasM.of o75
  have z78 := E74.size
  have X79 := X72.trans E74
  clear X72
  replace o14 := o14.ext E74
  replace o59 := o59.ext E74
  replace o67 := o67.ext E74
  clear E74
  clear o67
  go_wp2_with fail
  refine (asB (c := true) (by simp) (eqM_c _ _ _ _ _ _ _ o75.mat o14.mat)).mono ?_
  rintro e W81 ⟨rfl, q80⟩
  replace q80 := q80.ext
  have z82 := q80.size
  have X83 := X79.trans q80
  clear X79
  replace o14 := o14.ext q80
  replace o59 := o59.ext q80
  replace o75 := o75.ext q80
  clear q80
  clear o75
  clear o14
  go_wp2_with fail
  refine (heldM_c _ _ _ _ _ o59.mat (by omega) (by omega)).mono ?_
  rintro e W84 ⟨rfl, q85⟩
  replace q85 := q85.ext
  have z86 := q85.size
  have X87 := X83.trans q85
  clear X83
  replace o59 := o59.ext q85
  clear q85
  clear o59
  go_wp2
  go_ret
  exact ⟨rfl, X87⟩

set_option maxHeartbeats 2000000 in
theorem FnExactIsMatrix_walk {w : World} (a0 : Option Addr) (cap0 : Nat) (xs0 : List (List Int)) (h0 : MatAt w a0 xs0) (hb0 : MBd xs0) :
    Calls Try.prog 5 #[.slice a0 xs0.length cap0] w fun e w' => e = .returned (.bool true) ∧ Ext w w' := by
  have X0 := Ext.refl w
  by_cases hs0 : (1048576 - xs0.length - tot xs0 : Int) < 0
  · go_enter Try.func5, Try.ntmps5
    go_wp2_with fail
    refine (szM_c _ _ _ _ _ (h0.mono X0) (by omega) (by omega)).mono ?_
    rintro e w' ⟨rfl, hq⟩
    rw [if_pos hs0]
    go_wp2
    go_ret
    exact ⟨rfl, X0.qt hq⟩
  have hnn0 : 0 ≤ (1048576 - xs0.length - tot xs0 : Int) := by omega
  have hl0 : xs0.length ≤ 1048576 := by omega
  have hr0 : ∀ i, i < xs0.length → (row xs0 i).length ≤ 1048576 := fun i hi => by have := len_le_tot xs0 i hi; omega
  have ht0 : tot xs0 ≤ 1048576 := by omega
  replace hr0 := Lib.hid hr0
  clear hs0
  go_enter Try.func5, Try.ntmps5
  go_wp2_with fail
  refine (szM_c _ _ _ _ _ (h0.mono X0) (by omega) (by omega)).mono ?_
  rintro e W2 ⟨rfl, q1⟩
  rw [if_neg (Int.not_lt.2 hnn0)]
  replace q1 := q1.ext
  have z3 := q1.size
  have X4 := X0.trans q1
  clear X0
  clear q1
  go_wp2_with fail
  refine (toM_c _ _ _ _ (h0.mono X4) hl0 hr0.out).mono ?_
  rintro e W7 ⟨p8, c9, rfl, o6, E5⟩
  replace o6 := HasM.of o6
  have z10 := E5.size
  have X11 := X4.trans E5
  clear X4
  clear E5
  go_wp2_with fail
  refine (sIsMatrixE_c _ _ _ _ o6.mat).mono ?_
  rintro e W12 ⟨rfl, E13⟩
  have z14 := E13.size
  have X15 := X11.trans E13
  clear X11
  replace o6 := o6.ext E13
  clear E13
  clear o6
  go_wp2_with fail
  refine (toM_c _ _ _ _ (h0.mono X15) hl0 hr0.out).mono ?_
  rintro e W18 ⟨p19, c20, rfl, o17, E16⟩
  replace o17 := HasM.of o17
  have z21 := E16.size
  have X22 := X15.trans E16
  clear X15
  clear E16
  go_wp2_with fail
  refine (isMatrix_c _ _ _ _ o17.mat).mono ?_
  rintro e W23 ⟨rfl, E24⟩
  have z25 := E24.size
  have X26 := X22.trans E24
  clear X22
  replace o17 := o17.ext E24
  clear E24
  go_wp2_with fail
  refine (toM_c _ _ _ _ (h0.mono X26) hl0 hr0.out).mono ?_
  rintro e W29 ⟨p30, c31, rfl, o28, E27⟩
  replace o28 := HasM.of o28
  have z32 := E27.size
  have X33 := X26.trans E27
  clear X26
  replace o17 := o17.ext E27
  clear E27
  go_wp2_with fail
  refine (asB (c := true) (by simp) (eqM_c _ _ _ _ _ _ _ o17.mat o28.mat)).mono ?_
  rintro e W35 ⟨rfl, q34⟩
  replace q34 := q34.ext
  have z36 := q34.size
  have X37 := X33.trans q34
  clear X33
  replace o17 := o17.ext q34
  replace o28 := o28.ext q34
  clear q34
  clear o28
  go_wp2
  go_ret
  exact ⟨rfl, X37⟩

set_option maxHeartbeats 2000000 in
theorem FnExactAddMatrices_walk {w : World} (a0 : Option Addr) (cap0 : Nat) (xs0 : List (List Int)) (h0 : MatAt w a0 xs0) (hb0 : MBd xs0) (a1 : Option Addr) (cap1 : Nat) (xs1 : List (List Int)) (h1 : MatAt w a1 xs1) (hb1 : MBd xs1) :
    Calls Try.prog 11 #[.slice a0 xs0.length cap0, .slice a1 xs1.length cap1] w fun e w' => e = .returned (.bool true) ∧ Ext w w' := by
  have hV : tot (addV xs0 xs1).1 ≤ 1000000 := addV_tot _ _
  have X0 := Ext.refl w
  by_cases hs0 : (1048576 - xs0.length - tot xs0 : Int) < 0
  · go_enter Try.func11, Try.ntmps11
    go_wp2_with fail
    refine (szM_c _ _ _ _ _ (h0.mono X0) (by omega) (by omega)).mono ?_
    rintro e w' ⟨rfl, hq⟩
    rw [if_pos hs0]
    go_wp2
    go_ret
    exact ⟨rfl, X0.qt hq⟩
  have hnn0 : 0 ≤ (1048576 - xs0.length - tot xs0 : Int) := by omega
  have hl0 : xs0.length ≤ 1048576 := by omega
  have hr0 : ∀ i, i < xs0.length → (row xs0 i).length ≤ 1048576 := fun i hi => by have := len_le_tot xs0 i hi; omega
  have ht0 : tot xs0 ≤ 1048576 := by omega
  replace hr0 := Lib.hid hr0
  clear hs0
  by_cases hs1 : (1048576 - xs0.length - tot xs0 - xs1.length - tot xs1 : Int) < 0
  · go_enter Try.func11, Try.ntmps11
    go_wp2_with fail
    refine (szM_c _ _ _ _ _ (h0.mono X0) (by omega) (by omega)).mono ?_
    rintro e w1 ⟨rfl, hq⟩
    rw [if_neg (Int.not_lt.2 hnn0)]
    replace X0 := X0.qt hq
    clear hq
    go_wp2_with fail
    refine (szM_c _ _ _ _ _ (h1.mono X0) (by omega) (by omega)).mono ?_
    rintro e w' ⟨rfl, hq⟩
    rw [if_pos hs1]
    go_wp2
    go_ret
    exact ⟨rfl, X0.qt hq⟩
  have hnn1 : 0 ≤ (1048576 - xs0.length - tot xs0 - xs1.length - tot xs1 : Int) := by omega
  have hl1 : xs1.length ≤ 1048576 := by omega
  have hr1 : ∀ i, i < xs1.length → (row xs1 i).length ≤ 1048576 := fun i hi => by have := len_le_tot xs1 i hi; omega
  have ht1 : tot xs1 ≤ 1048576 := by omega
  replace hr1 := Lib.hid hr1
  clear hs1
  go_enter Try.func11, Try.ntmps11
  go_wp2_with fail
  refine (szM_c _ _ _ _ _ (h0.mono X0) (by omega) (by omega)).mono ?_
  rintro e W2 ⟨rfl, q1⟩
  rw [if_neg (Int.not_lt.2 hnn0)]
  replace q1 := q1.ext
  have z3 := q1.size
  have X4 := X0.trans q1
  clear X0
  clear q1
  go_wp2_with fail
  refine (szM_c _ _ _ _ _ (h1.mono X4) (by omega) (by omega)).mono ?_
  rintro e W6 ⟨rfl, q5⟩
  rw [if_neg (Int.not_lt.2 hnn1)]
  replace q5 := q5.ext
  have z7 := q5.size
  have X8 := X4.trans q5
  clear X4
  clear q5
  go_wp2_with fail
  refine (toM_c _ _ _ _ (h0.mono X8) hl0 hr0.out).mono ?_
  rintro e W11 ⟨p12, c13, rfl, o10, E9⟩
  replace o10 := HasM.of o10
  have z14 := E9.size
  have X15 := X8.trans E9
  clear X8
  clear E9
  go_wp2_with fail
  refine (toM_c _ _ _ _ (h1.mono X15) hl1 hr1.out).mono ?_
  rintro e W18 ⟨p19, c20, rfl, o17, E16⟩
  replace o17 := HasM.of o17
  have z21 := E16.size
  have X22 := X15.trans E16
  clear X15
  replace o10 := o10.ext E16
  clear E16
  go_wp2_with fail
  refine (specAdd_c _ _ _ _ _ _ _ o10.mat o17.mat).mono ?_
  rintro e W23 ⟨p26, c27, rfl, o25, E24⟩
  replace o25 := HasM.of o25
  have z28 := E24.size
  have X29 := X22.trans E24
  clear X22
  replace o10 := o10.ext E24
  replace o17 := o17.ext E24
  clear E24
  clear o10
  clear o17
  go_wp2_with fail
  refine (toM_c _ _ _ _ (h0.mono X29) hl0 hr0.out).mono ?_
  rintro e W32 ⟨p33, c34, rfl, o31, E30⟩
  replace o31 := HasM.of o31
  have z35 := E30.size
  have X36 := X29.trans E30
  clear X29
  replace o25 := o25.ext E30
  clear E30
  go_wp2_with fail
  refine (toM_c _ _ _ _ (h1.mono X36) hl1 hr1.out).mono ?_
  rintro e W39 ⟨p40, c41, rfl, o38, E37⟩
  replace o38 := HasM.of o38
  have z42 := E37.size
  have X43 := X36.trans E37
  clear X36
  replace o25 := o25.ext E37
  replace o31 := o31.ext E37
  clear E37
  go_wp2_with fail
  refine (implAdd_c _ _ _ _ _ _ _ o31.mat o38.mat).mono ?_
  rintro e W44 ⟨p47, c48, rfl, o46, E45⟩
  replace o46 := HasM.of o46
  have z49 := E45.size
  have X50 := X43.trans E45
  clear X43
  replace o25 := o25.ext E45
  replace o31 := o31.ext E45
  replace o38 := o38.ext E45
  clear E45
  go_wp2_with fail
  refine (asB (c := true) (by simp) (eqM_c _ _ _ _ _ _ _ o46.mat o25.mat)).mono ?_
  rintro e W52 ⟨rfl, q51⟩
  replace q51 := q51.ext
  have z53 := q51.size
  have X54 := X50.trans q51
  clear X50
  replace o25 := o25.ext q51
  replace o31 := o31.ext q51
  replace o38 := o38.ext q51
  replace o46 := o46.ext q51
  clear q51
  go_wp2_with fail
  refine (toM_c _ _ _ _ (h0.mono X54) hl0 hr0.out).mono ?_
  rintro e W57 ⟨p58, c59, rfl, o56, E55⟩
  replace o56 := HasM.of o56
  have z60 := E55.size
  have X61 := X54.trans E55
  clear X54
  replace o25 := o25.ext E55
  replace o31 := o31.ext E55
  replace o38 := o38.ext E55
  replace o46 := o46.ext E55
  clear E55
  go_wp2_with fail
  refine (asB (c := true) (by simp) (eqM_c _ _ _ _ _ _ _ o31.mat o56.mat)).mono ?_
  rintro e W63 ⟨rfl, q62⟩
  replace q62 := q62.ext
  have z64 := q62.size
  have X65 := X61.trans q62
  clear X61
  replace o25 := o25.ext q62
  replace o31 := o31.ext q62
  replace o38 := o38.ext q62
  replace o46 := o46.ext q62
  replace o56 := o56.ext q62
  clear q62
  clear o56
  go_wp2_with fail
  refine (toM_c _ _ _ _ (h1.mono X65) hl1 hr1.out).mono ?_
  rintro e W68 ⟨p69, c70, rfl, o67, E66⟩
  replace o67 := HasM.of o67
  have z71 := E66.size
  have X72 := X65.trans E66
  clear X65
  replace o25 := o25.ext E66
  replace o31 := o31.ext E66
  replace o38 := o38.ext E66
  replace o46 := o46.ext E66
  clear E66
  go_wp2_with fail
  refine (asB (c := true) (by simp) (eqM_c _ _ _ _ _ _ _ o38.mat o67.mat)).mono ?_
  rintro e W74 ⟨rfl, q73⟩
  replace q73 := q73.ext
  have z75 := q73.size
  have X76 := X72.trans q73
  clear X72
  replace o25 := o25.ext q73
  replace o31 := o31.ext q73
  replace o38 := o38.ext q73
  replace o46 := o46.ext q73
  replace o67 := o67.ext q73
  clear q73
  clear o67
  go_wp2_with fail
  refine (markMH_c _ _ _ _ _ _ _ o31 (by omega) (by omega)).mono ?_
  rintro e W77 ⟨rfl, o79, C78⟩
  clear o31
  have z80 := Nat.le_of_eq C78.size.symm
  have X81 := X76.chgT C78 (by omega)
  clear X76
  replace o25 := o25.chg C78 (by omega)
  replace o38 := o38.chg C78 (by omega)
  replace o46 := o46.chg C78 (by omega)
  clear C78
  clear o79
  go_wp2_with fail
  refine (markMH_c _ _ _ _ _ _ _ o38 (by omega) (by omega)).mono ?_
  rintro e W82 ⟨rfl, o84, C83⟩
  clear o38
  have z85 := Nat.le_of_eq C83.size.symm
  have X86 := X81.chgT C83 (by omega)
  clear X81
  replace o25 := o25.chg C83 (by omega)
  replace o46 := o46.chg C83 (by omega)
  clear C83
  clear o84
  go_wp2_with fail
  refine (asB (c := true) (by simp) (eqM_c _ _ _ _ _ _ _ o46.mat o25.mat)).mono ?_
  rintro e W88 ⟨rfl, q87⟩
  replace q87 := q87.ext
  have z89 := q87.size
  have X90 := X86.trans q87
  clear X86
  replace o25 := o25.ext q87
  replace o46 := o46.ext q87
  clear q87
  go_wp2_with fail
  refine (markMH_c _ _ _ _ _ _ _ o46 (by omega) (by omega)).mono ?_
  rintro e W91 ⟨rfl, o93, C92⟩
  clear o46
  have z94 := Nat.le_of_eq C92.size.symm
  have X95 := X90.chgT C92 (by omega)
  clear X90
  replace o25 := o25.chg C92 (by omega)
  clear C92
  go_wp2_with fail
  refine (heldM_c _ _ _ _ _ o93.mat (by omega) (by omega)).mono ?_
  rintro e W96 ⟨rfl, q97⟩
  replace q97 := q97.ext
  have z98 := q97.size
  have X99 := X95.trans q97
  clear X95
  replace o25 := o25.ext q97
  replace o93 := o93.ext q97
  clear q97
  go_wp2_with fail
  refine (toM_c _ _ _ _ (h0.mono X99) hl0 hr0.out).mono ?_
  rintro e W102 ⟨p103, c104, rfl, o101, E100⟩
  replace o101 := HasM.of o101
  have z105 := E100.size
  have X106 := X99.trans E100
  clear X99
  replace o25 := o25.ext E100
  replace o93 := o93.ext E100
  clear E100
  go_wp2_with fail
  refine (toM_c _ _ _ _ (h1.mono X106) hl1 hr1.out).mono ?_
  rintro e W109 ⟨p110, c111, rfl, o108, E107⟩
  replace o108 := HasM.of o108
  have z112 := E107.size
  have X113 := X106.trans E107
  clear X106
  replace o25 := o25.ext E107
  replace o93 := o93.ext E107
  replace o101 := o101.ext E107
  clear E107
  go_wp2_with fail
  refine (implAdd_c _ _ _ _ _ _ _ o101.mat o108.mat).mono ?_
  rintro e W114 ⟨p117, c118, rfl, o116, E115⟩
  replace o116 := HasM.of o116
  have z119 := E115.size
  have X120 := X113.trans E115
  clear X113
  replace o25 := o25.ext E115
  replace o93 := o93.ext E115
  replace o101 := o101.ext E115
  replace o108 := o108.ext E115
  clear E115
  clear o101
  clear o108
  go_wp2_with fail
  refine (asB (c := true) (by simp) (eqM_c _ _ _ _ _ _ _ o116.mat o25.mat)).mono ?_
  rintro e W122 ⟨rfl, q121⟩
  replace q121 := q121.ext
  have z123 := q121.size
  have X124 := X120.trans q121
  clear X120
  replace o25 := o25.ext q121
  replace o93 := o93.ext q121
  replace o116 := o116.ext q121
  clear q121
  clear o116
  clear o25
  go_wp2_with fail
  refine (heldM_c _ _ _ _ _ o93.mat (by omega) (by omega)).mono ?_
  rintro e W125 ⟨rfl, q126⟩
  replace q126 := q126.ext
  have z127 := q126.size
  have X128 := X124.trans q126
  clear X124
  replace o93 := o93.ext q126
  clear q126
  clear o93
  go_wp2
  go_ret
  exact ⟨rfl, X128⟩

end Go.Proofs.Ytcgfhmkcopigbaa
