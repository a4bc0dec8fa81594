/- The walks of laws over shifted matrices and powers. The arguments fit int64. -/
import Derived.Test.YtknbhgphdfipeaaE8
import Derived.Test.YtknbhgphdfipeaaH3
namespace Go.Proofs.Ytknbhgphdfipeaa
set_option linter.unusedVariables false
open Go.RowKit

set_option maxHeartbeats 2000000 in
theorem FnExactShiftMatrix_walk {w : World} (a0 : Option Addr) (cap0 : Nat) (xs0 : List (List Int)) (h0 : MatAt w a0 xs0) (hb0 : MBd xs0) (x1 y1 : Int) (hx1 : -9223372036854775808 ≤ x1 ∧ x1 ≤ 9223372036854775807) (hy1 : -9223372036854775808 ≤ y1 ∧ y1 ≤ 9223372036854775807) :
    Calls Try.prog 3 #[.slice a0 xs0.length cap0, .agg #[.int .i64 x1, .int .i64 y1]] w fun e w' => e = .returned (.bool true) ∧ Ext w w' := by
  have hV : tot (shiftV xs0 (x1, y1)).1 ≤ 1000000 := shiftV_tot _ _
  obtain ⟨WB, hWB, HB, hsB, X0⟩ := alloc2_facts w (.int .i64 x1) (.int .i64 y1) 24
  obtain ⟨rc, rd, -, -⟩ := HB
  by_cases hs0 : (1048576 - xs0.length - tot xs0 : Int) < 0
  · go_enter Try.func3, Try.ntmps3
    go_wp2_with fail
    refine (szM_c _ _ _ _ _ (h0.mono X0) (by omega) (by omega)).mono ?_
    rintro e w' ⟨rfl, hq⟩
    rw [if_pos hs0]
    go_wp2
    go_ret
    exact ⟨rfl, X0.qt hq⟩
  have hnn0 : 0 ≤ (1048576 - xs0.length - tot xs0 : Int) := by omega
  have hl0 : xs0.length ≤ 1048576 := by omega
  have hr0 : ∀ i, i < xs0.length → (row xs0 i).length ≤ 1048576 := fun i hi => by have := len_le_tot xs0 i hi; omega
  have ht0 : tot xs0 ≤ 1048576 := by omega
  replace hr0 := Lib.hid hr0
  clear hs0
  go_enter Try.func3, Try.ntmps3
  go_wp2_with fail
  refine (szM_c _ _ _ _ _ (h0.mono X0) (by omega) (by omega)).mono ?_
  rintro e W2 ⟨rfl, q1⟩
  rw [if_neg (Int.not_lt.2 hnn0)]
  replace q1 := q1.ext
  have z3 := q1.size
  have X4 := X0.trans q1
  clear X0
  replace rc := q1.cell rc
  replace rd := q1.cell rd
  clear q1
  go_wp2_with fail
  go_region_held3 (fun w' => Ext W2 w' ∧ w'.cell? ⟨w.heap.size, 0, none⟩ = some (.int .i64 x1) ∧ w'.cell? ⟨w.heap.size, 1, none⟩ = some (.int .i64 y1))
    ((refine keepR1 rc rd ?_; (first | exact Ext.refl _ | exact (Ext.refl _).drew | exact Ext.trans ((Ext.refl _).drew) hEr | exact Ext.trans (And.left ‹_›) hEr | exact Ext.trans ((Ext.refl _).drew) hES | exact Ext.trans (And.left ‹_›) hES | exact Ext.trans ((Ext.refl _).drew) hEm0 | exact Ext.trans (And.left ‹_›) hEm0)))
    (first | (go_at_call 17; refine (toM_c _ _ _ _ (h0.mono (by first | exact X4 | exact (X4.drew) | exact (Ext.trans X4 (And.left ‹Ext W2 _ ∧ _›)))) hl0 hr0.out).mono ?_; rintro e wM0 ⟨pM0, cM0, rfl, oM0, hEm0⟩) | (go_at_call 18; refine (toRatio_c _ _ _).mono ?_; rintro e wR ⟨rfl, hEr⟩) | (go_at_call 16; refine (specShift_c _ _ _ _ _ _ (oM0.mat.mono (hEr))).mono ?_; rintro e wS ⟨pS, cS, rfl, oS, hES⟩))
  rename_i hH5
  obtain ⟨W6, rfl⟩ : ∃ W6, W6 = wS := ⟨_, rfl⟩
  have E7 := hH5.1
  have o8 := HasM.of oS
  clear oS
  have z9 := E7.size
  have X10 := X4.trans E7
  clear X4
  replace rc := E7.cell rc
  replace rd := E7.cell rd
  clear E7
  go_wp2_with fail
  refine (toM_c _ _ _ _ (h0.mono X10) hl0 hr0.out).mono ?_
  rintro e W13 ⟨p14, c15, rfl, o12, E11⟩
  replace o12 := HasM.of o12
  have z16 := E11.size
  have X17 := X10.trans E11
  clear X10
  replace o8 := o8.ext E11
  replace rc := E11.cell rc
  replace rd := E11.cell rd
  clear E11
  go_wp2_with fail
  refine (toRatio_c _ _ _).mono ?_
  rintro e W19 ⟨rfl, E18⟩
  have z20 := E18.size
  have X21 := X17.trans E18
  clear X17
  replace o8 := o8.ext E18
  replace o12 := o12.ext E18
  replace rc := E18.cell rc
  replace rd := E18.cell rd
  clear E18
  go_wp2_with fail
  refine (implShift_c _ _ _ _ _ _ o12.mat).mono ?_
  rintro e W22 ⟨p25, c26, rfl, o24, E23⟩
  replace o24 := HasM.of o24
  have z27 := E23.size
  have X28 := X21.trans E23
  clear X21
  replace o8 := o8.ext E23
  replace o12 := o12.ext E23
  replace rc := E23.cell rc
  replace rd := E23.cell rd
  clear E23
  go_wp2_with fail
  refine (asB (c := true) (by simp) (eqM_c _ _ _ _ _ _ _ o24.mat o8.mat)).mono ?_
  rintro e W30 ⟨rfl, q29⟩
  replace q29 := q29.ext
  have z31 := q29.size
  have X32 := X28.trans q29
  clear X28
  replace o8 := o8.ext q29
  replace o12 := o12.ext q29
  replace o24 := o24.ext q29
  replace rc := q29.cell rc
  replace rd := q29.cell rd
  clear q29
  go_wp2_with fail
  refine (toM_c _ _ _ _ (h0.mono X32) hl0 hr0.out).mono ?_
  rintro e W35 ⟨p36, c37, rfl, o34, E33⟩
  replace o34 := HasM.of o34
  have z38 := E33.size
  have X39 := X32.trans E33
  clear X32
  replace o8 := o8.ext E33
  replace o12 := o12.ext E33
  replace o24 := o24.ext E33
  replace rc := E33.cell rc
  replace rd := E33.cell rd
  clear E33
  go_wp2_with fail
  refine (asB (c := true) (by simp) (eqM_c _ _ _ _ _ _ _ o12.mat o34.mat)).mono ?_
  rintro e W41 ⟨rfl, q40⟩
  replace q40 := q40.ext
  have z42 := q40.size
  have X43 := X39.trans q40
  clear X39
  replace o8 := o8.ext q40
  replace o12 := o12.ext q40
  replace o24 := o24.ext q40
  replace o34 := o34.ext q40
  replace rc := q40.cell rc
  replace rd := q40.cell rd
  clear q40
  clear o34
  go_wp2_with fail
  refine (markMH_c _ _ _ _ _ _ _ o12 (by omega) (by omega)).mono ?_
  rintro e W44 ⟨rfl, o46, C45⟩
  clear o12
  have z47 := Nat.le_of_eq C45.size.symm
  have X48 := X43.chgT C45 (by omega)
  clear X43
  replace o8 := o8.chg C45 (by omega)
  replace o24 := o24.chg C45 (by omega)
  replace rc := C45.cellT rc (by simp only; omega)
  replace rd := C45.cellT rd (by simp only; omega)
  clear C45
  clear o46
  go_wp2_with fail
  refine (asB (c := true) (by simp) (eqM_c _ _ _ _ _ _ _ o24.mat o8.mat)).mono ?_
  rintro e W50 ⟨rfl, q49⟩
  replace q49 := q49.ext
  have z51 := q49.size
  have X52 := X48.trans q49
  clear X48
  replace o8 := o8.ext q49
  replace o24 := o24.ext q49
  replace rc := q49.cell rc
  replace rd := q49.cell rd
  clear q49
  go_wp2_with fail
  refine (markMH_c _ _ _ _ _ _ _ o24 (by omega) (by omega)).mono ?_
  rintro e W53 ⟨rfl, o55, C54⟩
  clear o24
  have z56 := Nat.le_of_eq C54.size.symm
  have X57 := X52.chgT C54 (by omega)
  clear X52
  replace o8 := o8.chg C54 (by omega)
  replace rc := C54.cellT rc (by simp only; omega)
  replace rd := C54.cellT rd (by simp only; omega)
  clear C54
  go_wp2_with fail
  refine (heldM_c _ _ _ _ _ o55.mat (by omega) (by omega)).mono ?_
  rintro e W58 ⟨rfl, q59⟩
  replace q59 := q59.ext
  have z60 := q59.size
  have X61 := X57.trans q59
  clear X57
  replace o8 := o8.ext q59
  replace o55 := o55.ext q59
  replace rc := q59.cell rc
  replace rd := q59.cell rd
  clear q59
  go_wp2_with fail
  go_region_held3 (fun w' => Ext W58 w' ∧ w'.cell? ⟨w.heap.size, 0, none⟩ = some (.int .i64 x1) ∧ w'.cell? ⟨w.heap.size, 1, none⟩ = some (.int .i64 y1))
    ((refine keepR1 rc rd ?_; (first | exact Ext.refl _ | exact (Ext.refl _).drew | exact Ext.trans ((Ext.refl _).drew) hEr | exact Ext.trans (And.left ‹_›) hEr | exact Ext.trans ((Ext.refl _).drew) hES | exact Ext.trans (And.left ‹_›) hES | exact Ext.trans ((Ext.refl _).drew) hEm0 | exact Ext.trans (And.left ‹_›) hEm0)))
    (first | (go_at_call 17; refine (toM_c _ _ _ _ (h0.mono (by first | exact X61 | exact (X61.drew) | exact (Ext.trans X61 (And.left ‹Ext W58 _ ∧ _›)))) hl0 hr0.out).mono ?_; rintro e wM0 ⟨pM0, cM0, rfl, oM0, hEm0⟩) | (go_at_call 18; refine (toRatio_c _ _ _).mono ?_; rintro e wR ⟨rfl, hEr⟩) | (go_at_call 19; refine (implShift_c _ _ _ _ _ _ (oM0.mat.mono (hEr))).mono ?_; rintro e wS ⟨pS, cS, rfl, oS, hES⟩))
  rename_i hH62
  obtain ⟨W63, rfl⟩ : ∃ W63, W63 = wS := ⟨_, rfl⟩
  have E64 := hH62.1
  have o65 := HasM.of oS
  clear oS
  have z66 := E64.size
  have X67 := X61.trans E64
  clear X61
  replace o8 := o8.ext E64
  replace o55 := o55.ext E64
  replace rc := E64.cell rc
  replace rd := E64.cell rd
  clear E64
  go_wp2_with fail
  refine (asB (c := true) (by simp) (eqM_c _ _ _ _ _ _ _ o65.mat o8.mat)).mono ?_
  rintro e W69 ⟨rfl, q68⟩
  replace q68 := q68.ext
  have z70 := q68.size
  have X71 := X67.trans q68
  clear X67
  replace o8 := o8.ext q68
  replace o55 := o55.ext q68
  replace o65 := o65.ext q68
  replace rc := q68.cell rc
  replace rd := q68.cell rd
  clear q68
  clear o65
  clear o8
  go_wp2_with fail
  refine (heldM_c _ _ _ _ _ o55.mat (by omega) (by omega)).mono ?_
  rintro e W72 ⟨rfl, q73⟩
  replace q73 := q73.ext
  have z74 := q73.size
  have X75 := X71.trans q73
  clear X71
  replace o55 := o55.ext q73
  replace rc := q73.cell rc
  replace rd := q73.cell rd
  clear q73
  clear o55
  go_wp2
  go_ret
  exact ⟨rfl, X75⟩

set_option maxHeartbeats 2000000 in
theorem FnExactPowerMatrix_walk {w : World} (a0 : Option Addr) (cap0 : Nat) (xs0 : List (List Int)) (h0 : MatAt w a0 xs0) (hb0 : MBd xs0) (a1 : Int) (ha1 : -9223372036854775808 ≤ a1 ∧ a1 ≤ 9223372036854775807) :
    Calls Try.prog 4 #[.slice a0 xs0.length cap0, .int .i64 a1] w fun e w' => e = .returned (.bool true) ∧ Ext w w' := by
  have hV : tot (powMV xs0 a1).1 ≤ 1000000 := powMV_tot _ _
  have X0 := Ext.refl w
  by_cases hs0 : (1048576 - xs0.length - tot xs0 : Int) < 0
  · go_enter Try.func4, Try.ntmps4
    go_wp2_with fail
    refine (szM_c _ _ _ _ _ (h0.mono X0) (by omega) (by omega)).mono ?_
    rintro e w' ⟨rfl, hq⟩
    rw [if_pos hs0]
    go_wp2
    go_ret
    exact ⟨rfl, X0.qt hq⟩
  have hnn0 : 0 ≤ (1048576 - xs0.length - tot xs0 : Int) := by omega
  have hl0 : xs0.length ≤ 1048576 := by omega
  have hr0 : ∀ i, i < xs0.length → (row xs0 i).length ≤ 1048576 := fun i hi => by have := len_le_tot xs0 i hi; omega
  have ht0 : tot xs0 ≤ 1048576 := by omega
  replace hr0 := Lib.hid hr0
  clear hs0
  go_enter Try.func4, Try.ntmps4
  go_wp2_with fail
  refine (szM_c _ _ _ _ _ (h0.mono X0) (by omega) (by omega)).mono ?_
  rintro e W2 ⟨rfl, q1⟩
  rw [if_neg (Int.not_lt.2 hnn0)]
  replace q1 := q1.ext
  have z3 := q1.size
  have X4 := X0.trans q1
  clear X0
  clear q1
  go_wp2_with fail
  refine (toM_c _ _ _ _ (h0.mono X4) hl0 hr0.out).mono ?_
  rintro e W7 ⟨p8, c9, rfl, o6, E5⟩
  replace o6 := HasM.of o6
  have z10 := E5.size
  have X11 := X4.trans E5
  clear X4
  clear E5
  go_wp2_with fail
  refine (specPow_c _ _ _ _ _ o6.mat).mono ?_
  rintro e W12 ⟨p15, c16, rfl, o14, E13⟩
  replace o14 := HasM.of o14
  have z17 := E13.size
  have X18 := X11.trans E13
  clear X11
  replace o6 := o6.ext E13
  clear E13
  clear o6
  go_wp2_with fail
  refine (toM_c _ _ _ _ (h0.mono X18) hl0 hr0.out).mono ?_
  rintro e W21 ⟨p22, c23, rfl, o20, E19⟩
  replace o20 := HasM.of o20
  have z24 := E19.size
  have X25 := X18.trans E19
  clear X18
  replace o14 := o14.ext E19
  clear E19
  go_wp2_with fail
  refine (implPow_c _ _ _ _ _ o20.mat).mono ?_
  rintro e W26 ⟨p29, c30, rfl, o28, E27⟩
  replace o28 := HasM.of o28
  have z31 := E27.size
  have X32 := X25.trans E27
  clear X25
  replace o14 := o14.ext E27
  replace o20 := o20.ext E27
  clear E27
  go_wp2_with fail
  refine (asB (c := true) (by simp) (eqM_c _ _ _ _ _ _ _ o28.mat o14.mat)).mono ?_
  rintro e W34 ⟨rfl, q33⟩
  replace q33 := q33.ext
  have z35 := q33.size
  have X36 := X32.trans q33
  clear X32
  replace o14 := o14.ext q33
  replace o20 := o20.ext q33
  replace o28 := o28.ext q33
  clear q33
  go_wp2_with fail
  refine (toM_c _ _ _ _ (h0.mono X36) hl0 hr0.out).mono ?_
  rintro e W39 ⟨p40, c41, rfl, o38, E37⟩
  replace o38 := HasM.of o38
  have z42 := E37.size
  have X43 := X36.trans E37
  clear X36
  replace o14 := o14.ext E37
  replace o20 := o20.ext E37
  replace o28 := o28.ext E37
  clear E37
  go_wp2_with fail
  refine (asB (c := true) (by simp) (eqM_c _ _ _ _ _ _ _ o20.mat o38.mat)).mono ?_
  rintro e W45 ⟨rfl, q44⟩
  replace q44 := q44.ext
  have z46 := q44.size
  have X47 := X43.trans q44
  clear X43
  replace o14 := o14.ext q44
  replace o20 := o20.ext q44
  replace o28 := o28.ext q44
  replace o38 := o38.ext q44
  clear q44
  clear o38
  go_wp2_with fail
  refine (markMH_c _ _ _ _ _ _ _ o20 (by omega) (by omega)).mono ?_
  rintro e W48 ⟨rfl, o50, C49⟩
  clear o20
  have z51 := Nat.le_of_eq C49.size.symm
  have X52 := X47.chgT C49 (by omega)
  clear X47
  replace o14 := o14.chg C49 (by omega)
  replace o28 := o28.chg C49 (by omega)
  clear C49
  clear o50
  go_wp2_with fail
  refine (asB (c := true) (by simp) (eqM_c _ _ _ _ _ _ _ o28.mat o14.mat)).mono ?_
  rintro e W54 ⟨rfl, q53⟩
  replace q53 := q53.ext
  have z55 := q53.size
  have X56 := X52.trans q53
  clear X52
  replace o14 := o14.ext q53
  replace o28 := o28.ext q53
  clear q53
  go_wp2_with fail
  refine (markMH_c _ _ _ _ _ _ _ o28 (by omega) (by omega)).mono ?_
  rintro e W57 ⟨rfl, o59, C58⟩
  clear o28
  have z60 := Nat.le_of_eq C58.size.symm
  have X61 := X56.chgT C58 (by omega)
  clear X56
  replace o14 := o14.chg C58 (by omega)
  clear C58
  go_wp2_with fail
  refine (heldM_c _ _ _ _ _ o59.mat (by omega) (by omega)).mono ?_
  rintro e W62 ⟨rfl, q63⟩
  replace q63 := q63.ext
  have z64 := q63.size
  have X65 := X61.trans q63
  clear X61
  replace o14 := o14.ext q63
  replace o59 := o59.ext q63
  clear q63
  go_wp2_with fail
  refine (toM_c _ _ _ _ (h0.mono X65) hl0 hr0.out).mono ?_
  rintro e W68 ⟨p69, c70, rfl, o67, E66⟩
  replace o67 := HasM.of o67
  have z71 := E66.size
  have X72 := X65.trans E66
  clear X65
  replace o14 := o14.ext E66
  replace o59 := o59.ext E66
  clear E66
  go_wp2_with fail
  refine (implPow_c _ _ _ _ _ o67.mat).mono ?_
  rintro e W73 ⟨p76, c77, rfl, o75, E74⟩
  replace o75 := HasM.of o75
  have z78 := E74.size
  have X79 := X72.trans E74
  clear X72
  replace o14 := o14.ext E74
  replace o59 := o59.ext E74
  replace o67 := o67.ext E74
  clear E74
  clear o67
  go_wp2_with fail
  refine (asB (c := true) (by simp) (eqM_c _ _ _ _ _ _ _ o75.mat o14.mat)).mono ?_
  rintro e W81 ⟨rfl, q80⟩
  replace q80 := q80.ext
  have z82 := q80.size
  have X83 := X79.trans q80
  clear X79
  replace o14 := o14.ext q80
  replace o59 := o59.ext q80
  replace o75 := o75.ext q80
  clear q80
  clear o75
  clear o14
  go_wp2_with fail
  refine (heldM_c _ _ _ _ _ o59.mat (by omega) (by omega)).mono ?_
  rintro e W84 ⟨rfl, q85⟩
  replace q85 := q85.ext
  have z86 := q85.size
  have X87 := X83.trans q85
  clear X83
  replace o59 := o59.ext q85
  clear q85
  clear o59
  go_wp2
  go_ret
  exact ⟨rfl, X87⟩

end Go.Proofs.Ytknbhgphdfipeaa
