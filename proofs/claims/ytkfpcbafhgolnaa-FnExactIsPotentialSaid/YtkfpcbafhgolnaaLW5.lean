/- The walks of laws over stretched matrices and potentials. The arguments fit int64. -/
import Derived.Test.YtkfpcbafhgolnaaM13
import Derived.Test.YtkfpcbafhgolnaaH3
namespace Go.Proofs.Ytkfpcbafhgolnaa
set_option linter.unusedVariables false
open Go.RowKit

set_option maxHeartbeats 2000000 in
theorem FnExactStretchMatrix_walk {w : World} (a0 : Option Addr) (cap0 : Nat) (xs0 : List (List Int)) (h0 : MatAt w a0 xs0) (hb0 : MBd xs0) (a1 : Int) (ha1 : -9223372036854775808 ≤ a1 ∧ a1 ≤ 9223372036854775807) :
    Calls Try.prog 11 #[.slice a0 xs0.length cap0, .int .i64 a1] w fun e w' => e = .returned (.bool true) ∧ Ext w w' := by
  have hV : tot (stretchV xs0 a1).1 ≤ 1000000 := stretchV_tot _ _
  have X0 := Ext.refl w
  by_cases hs0 : (1048576 - xs0.length - tot xs0 : Int) < 0
  · go_enter Try.func11, Try.ntmps11
    go_wp2_with fail
    refine (szM_c _ _ _ _ _ (h0.mono X0) (by omega) (by omega)).mono ?_
    rintro e w' ⟨rfl, hq⟩
    rw [if_pos hs0]
    go_wp2
    go_ret
    exact ⟨rfl, X0.qt hq⟩
  have hnn0 : 0 ≤ (1048576 - xs0.length - tot xs0 : Int) := by omega
  have hl0 : xs0.length ≤ 1048576 := by omega
  have hr0 : ∀ i, i < xs0.length → (row xs0 i).length ≤ 1048576 := fun i hi => by have := len_le_tot xs0 i hi; omega
  have ht0 : tot xs0 ≤ 1048576 := by omega
  replace hr0 := Lib.hid hr0
  clear hs0
  go_enter Try.func11, Try.ntmps11
  go_wp2_with fail
  refine (szM_c _ _ _ _ _ (h0.mono X0) (by omega) (by omega)).mono ?_
  rintro e W2 ⟨rfl, q1⟩
  rw [if_neg (Int.not_lt.2 hnn0)]
  replace q1 := q1.ext
  have z3 := q1.size
  have X4 := X0.trans q1
  clear X0
  clear q1
  go_wp2_with fail
  refine (toM_c _ _ _ _ (h0.mono X4) hl0 hr0.out).mono ?_
  rintro e W7 ⟨p8, c9, rfl, o6, E5⟩
  replace o6 := HasM.of o6
  have z10 := E5.size
  have X11 := X4.trans E5
  clear X4
  clear E5
  go_wp2_with fail
  refine (specStretch_c _ _ _ _ _ o6.mat).mono ?_
  rintro e W12 ⟨p15, c16, rfl, o14, E13⟩
  replace o14 := HasM.of o14
  have z17 := E13.size
  have X18 := X11.trans E13
  clear X11
  replace o6 := o6.ext E13
  clear E13
  clear o6
  go_wp2_with fail
  refine (toM_c _ _ _ _ (h0.mono X18) hl0 hr0.out).mono ?_
  rintro e W21 ⟨p22, c23, rfl, o20, E19⟩
  replace o20 := HasM.of o20
  have z24 := E19.size
  have X25 := X18.trans E19
  clear X18
  replace o14 := o14.ext E19
  clear E19
  go_wp2_with fail
  refine (implStretch_c _ _ _ _ _ o20.mat).mono ?_
  rintro e W26 ⟨p29, c30, rfl, o28, E27⟩
  replace o28 := HasM.of o28
  have z31 := E27.size
  have X32 := X25.trans E27
  clear X25
  replace o14 := o14.ext E27
  replace o20 := o20.ext E27
  clear E27
  go_wp2_with fail
  refine (asB (c := true) (by simp) (eqM_c _ _ _ _ _ _ _ o28.mat o14.mat)).mono ?_
  rintro e W34 ⟨rfl, q33⟩
  replace q33 := q33.ext
  have z35 := q33.size
  have X36 := X32.trans q33
  clear X32
  replace o14 := o14.ext q33
  replace o20 := o20.ext q33
  replace o28 := o28.ext q33
  clear q33
  go_wp2_with fail
  refine (toM_c _ _ _ _ (h0.mono X36) hl0 hr0.out).mono ?_
  rintro e W39 ⟨p40, c41, rfl, o38, E37⟩
  replace o38 := HasM.of o38
  have z42 := E37.size
  have X43 := X36.trans E37
  clear X36
  replace o14 := o14.ext E37
  replace o20 := o20.ext E37
  replace o28 := o28.ext E37
  clear E37
  go_wp2_with fail
  refine (asB (c := true) (by simp) (eqM_c _ _ _ _ _ _ _ o20.mat o38.mat)).mono ?_
  rintro e W45 ⟨rfl, q44⟩
  replace q44 := q44.ext
  have z46 := q44.size
  have X47 := X43.trans q44
  clear X43
  replace o14 := o14.ext q44
  replace o20 := o20.ext q44
  replace o28 := o28.ext q44
  replace o38 := o38.ext q44
  clear q44
  clear o38
  go_wp2_with fail
  refine (markMH_c _ _ _ _ _ _ _ o20 (by omega) (by omega)).mono ?_
  rintro e W48 ⟨rfl, o50, C49⟩
  clear o20
  have z51 := Nat.le_of_eq C49.size.symm
  have X52 := X47.chgT C49 (by omega)
  clear X47
  replace o14 := o14.chg C49 (by omega)
  replace o28 := o28.chg C49 (by omega)
  clear C49
  clear o50
  go_wp2_with fail
  refine (asB (c := true) (by simp) (eqM_c _ _ _ _ _ _ _ o28.mat o14.mat)).mono ?_
  rintro e W54 ⟨rfl, q53⟩
  replace q53 := q53.ext
  have z55 := q53.size
  have X56 := X52.trans q53
  clear X52
  replace o14 := o14.ext q53
  replace o28 := o28.ext q53
  clear q53
  go_wp2_with fail
  refine (markMH_c _ _ _ _ _ _ _ o28 (by omega) (by omega)).mono ?_
  rintro e W57 ⟨rfl, o59, C58⟩
  clear o28
  have z60 := Nat.le_of_eq C58.size.symm
  have X61 := X56.chgT C58 (by omega)
  clear X56
  replace o14 := o14.chg C58 (by omega)
  clear C58
  go_wp2_with fail
  refine (heldM_c _ _ _ _ _ o59.mat (by omega) (by omega)).mono ?_
  rintro e W62 ⟨rfl, q63⟩
  replace q63 := q63.ext
  have z64 := q63.size
  have X65 := X61.trans q63
  clear X61
  replace o14 := o14.ext q63
  replace o59 := o59.ext q63
  clear q63
  go_wp2_with fail
  refine (toM_c _ _ _ _ (h0.mono X65) hl0 hr0.out).mono ?_
  rintro e W68 ⟨p69, c70, rfl, o67, E66⟩
  replace o67 := HasM.of o67
  have z71 := E66.size
  have X72 := X65.trans E66
  clear X65
  replace o14 := o14.ext E66
  replace o59 := o59.ext E66
  clear E66
  go_wp2_with fail
  refine (implStretch_c _ _ _ _ _ o67.mat).mono ?_
  rintro e W73 ⟨p76, c77, rfl, o75, E74⟩
  replace o75 := HasM.of o75
  have z78 := E74.size
  have X79 := X72.trans E74
  clear X72
  replace o14 := o14.ext E74
  replace o59 := o59.ext E74
  replace o67 := o67.ext E74
  clear E74
  clear o67
  go_wp2_with fail
  refine (asB (c := true) (by simp) (eqM_c _ _ _ _ _ _ _ o75.mat o14.mat)).mono ?_
  rintro e W81 ⟨rfl, q80⟩
  replace q80 := q80.ext
  have z82 := q80.size
  have X83 := X79.trans q80
  clear X79
  replace o14 := o14.ext q80
  replace o59 := o59.ext q80
  replace o75 := o75.ext q80
  clear q80
  clear o75
  clear o14
  go_wp2_with fail
  refine (heldM_c _ _ _ _ _ o59.mat (by omega) (by omega)).mono ?_
  rintro e W84 ⟨rfl, q85⟩
  replace q85 := q85.ext
  have z86 := q85.size
  have X87 := X83.trans q85
  clear X83
  replace o59 := o59.ext q85
  clear q85
  clear o59
  go_wp2
  go_ret
  exact ⟨rfl, X87⟩

set_option maxHeartbeats 2000000 in
theorem FnExactIsPotential_walk {w : World} (a0 : Option Addr) (cap0 : Nat) (xs0 : List (List Int)) (h0 : MatAt w a0 xs0) (hb0 : MBd xs0) (x1 y1 : Int) (hx1 : -9223372036854775808 ≤ x1 ∧ x1 ≤ 9223372036854775807) (hy1 : -9223372036854775808 ≤ y1 ∧ y1 ≤ 9223372036854775807) (a2 : Option Addr) (cap2 : Nat) (xs2 : List Int) (h2 : IntsAt w a2 xs2) (hb2 : IBd xs2) :
    Calls Try.prog 12 #[.slice a0 xs0.length cap0, .agg #[.int .i64 x1, .int .i64 y1], .slice a2 xs2.length cap2] w fun e w' => e = .returned (.bool true) ∧ Ext w w' := by
  obtain ⟨WB, hWB, HB, hsB, X0⟩ := alloc2_facts w (.int .i64 x1) (.int .i64 y1) 54
  obtain ⟨rc, rd, -, -⟩ := HB
  have hlen2 := h2.len
  by_cases hs2 : 1048576 < xs2.length
  · go_enter Try.func12, Try.ntmps12
    go_wp2
    go_ret
    exact ⟨rfl, X0⟩
  have hl2 : xs2.length ≤ 1048576 := by omega
  by_cases hs0 : (1048576 - xs0.length - tot xs0 : Int) < 0
  · go_enter Try.func12, Try.ntmps12
    go_wp2_with fail
    refine (szM_c _ _ _ _ _ (h0.mono X0) (by omega) (by omega)).mono ?_
    rintro e w' ⟨rfl, hq⟩
    rw [if_pos hs0]
    go_wp2
    go_ret
    exact ⟨rfl, X0.qt hq⟩
  have hnn0 : 0 ≤ (1048576 - xs0.length - tot xs0 : Int) := by omega
  have hl0 : xs0.length ≤ 1048576 := by omega
  have hr0 : ∀ i, i < xs0.length → (row xs0 i).length ≤ 1048576 := fun i hi => by have := len_le_tot xs0 i hi; omega
  have ht0 : tot xs0 ≤ 1048576 := by omega
  replace hr0 := Lib.hid hr0
  clear hs0
  go_enter Try.func12, Try.ntmps12
  go_wp2_with fail
  refine (szM_c _ _ _ _ _ (h0.mono X0) (by omega) (by omega)).mono ?_
  rintro e W2 ⟨rfl, q1⟩
  rw [if_neg (Int.not_lt.2 hnn0)]
  replace q1 := q1.ext
  have z3 := q1.size
  have X4 := X0.trans q1
  clear X0
  replace rc := q1.cell rc
  replace rd := q1.cell rd
  clear q1
  go_wp2_with fail
  go_region_held3 (fun w' => Ext W2 w' ∧ w'.cell? ⟨w.heap.size, 0, none⟩ = some (.int .i64 x1) ∧ w'.cell? ⟨w.heap.size, 1, none⟩ = some (.int .i64 y1))
    ((refine keepR1 rc rd ?_; (first | exact Ext.refl _ | exact (Ext.refl _).drew | exact Ext.trans ((Ext.refl _).drew) hEr | exact Ext.trans (And.left ‹_›) hEr | exact Ext.trans ((Ext.refl _).drew) hES | exact Ext.trans (And.left ‹_›) hES | exact Ext.trans ((Ext.refl _).drew) hEm0 | exact Ext.trans (And.left ‹_›) hEm0 | exact Ext.trans ((Ext.refl _).drew) hEi2 | exact Ext.trans (And.left ‹_›) hEi2)))
    (first | (go_at_call 26; refine (toM_c _ _ _ _ (h0.mono (by first | exact X4 | exact (X4.drew) | exact (Ext.trans X4 (And.left ‹Ext W2 _ ∧ _›)))) hl0 hr0.out).mono ?_; rintro e wM0 ⟨pM0, cM0, rfl, oM0, hEm0⟩) | (go_at_call 53; refine (toRatio_c _ _ _).mono ?_; rintro e wR ⟨rfl, hEr⟩) | (go_at_call 30; refine (toI_c _ _ _ _ (h2.mono (by first | exact X4 | exact (X4.drew) | exact (Ext.trans X4 (And.left ‹Ext W2 _ ∧ _›)))) hl2).mono ?_; rintro e wI2 ⟨pI2, cI2, rfl, oI2, hEi2⟩) | (go_at_call 52; refine (specPot_c _ _ _ _ _ _ _ _ _ (oM0.mat.mono (Ext.trans (hEr) hEi2)) (oI2.ints.mono (Ext.refl _))).mono ?_; rintro e wS ⟨rfl, hES⟩))
  rename_i hH5
  obtain ⟨W6, rfl⟩ : ∃ W6, W6 = wS := ⟨_, rfl⟩
  have E7 := hH5.1
  have z8 := E7.size
  have X9 := X4.trans E7
  clear X4
  replace rc := E7.cell rc
  replace rd := E7.cell rd
  clear E7
  go_wp2_with fail
  refine (toM_c _ _ _ _ (h0.mono X9) hl0 hr0.out).mono ?_
  rintro e W12 ⟨p13, c14, rfl, o11, E10⟩
  replace o11 := HasM.of o11
  have z15 := E10.size
  have X16 := X9.trans E10
  clear X9
  replace rc := E10.cell rc
  replace rd := E10.cell rd
  clear E10
  go_wp2_with fail
  refine (toI_c _ _ _ _ (h2.mono X16) hl2).mono ?_
  rintro e W19 ⟨p20, c21, rfl, o18, E17⟩
  replace o18 := HasI.of o18
  have z22 := E17.size
  have X23 := X16.trans E17
  clear X16
  replace o11 := o11.ext E17
  replace rc := E17.cell rc
  replace rd := E17.cell rd
  clear E17
  go_wp2_with fail
  refine (toRatio_c _ _ _).mono ?_
  rintro e W25 ⟨rfl, E24⟩
  have z26 := E24.size
  have X27 := X23.trans E24
  clear X23
  replace o11 := o11.ext E24
  replace o18 := o18.ext E24
  replace rc := E24.cell rc
  replace rd := E24.cell rd
  clear E24
  go_wp2_with fail
  refine (implPot_c _ _ _ _ _ _ _ _ _ o11.mat o18.ints).mono ?_
  rintro e W28 ⟨rfl, E29⟩
  have z30 := E29.size
  have X31 := X27.trans E29
  clear X27
  replace o11 := o11.ext E29
  replace o18 := o18.ext E29
  replace rc := E29.cell rc
  replace rd := E29.cell rd
  clear E29
  go_wp2_with fail
  refine (toM_c _ _ _ _ (h0.mono X31) hl0 hr0.out).mono ?_
  rintro e W34 ⟨p35, c36, rfl, o33, E32⟩
  replace o33 := HasM.of o33
  have z37 := E32.size
  have X38 := X31.trans E32
  clear X31
  replace o11 := o11.ext E32
  replace o18 := o18.ext E32
  replace rc := E32.cell rc
  replace rd := E32.cell rd
  clear E32
  go_wp2_with fail
  refine (asB (c := true) (by simp) (eqM_c _ _ _ _ _ _ _ o11.mat o33.mat)).mono ?_
  rintro e W40 ⟨rfl, q39⟩
  replace q39 := q39.ext
  have z41 := q39.size
  have X42 := X38.trans q39
  clear X38
  replace o11 := o11.ext q39
  replace o18 := o18.ext q39
  replace o33 := o33.ext q39
  replace rc := q39.cell rc
  replace rd := q39.cell rd
  clear q39
  clear o33
  go_wp2_with fail
  refine (toI_c _ _ _ _ (h2.mono X42) hl2).mono ?_
  rintro e W45 ⟨p46, c47, rfl, o44, E43⟩
  replace o44 := HasI.of o44
  have z48 := E43.size
  have X49 := X42.trans E43
  clear X42
  replace o11 := o11.ext E43
  replace o18 := o18.ext E43
  replace rc := E43.cell rc
  replace rd := E43.cell rd
  clear E43
  go_wp2_with fail
  refine (asB (c := true) (by simp) (eqI_c _ _ _ _ _ _ _ o18.ints o44.ints)).mono ?_
  rintro e W51 ⟨rfl, q50⟩
  replace q50 := q50.ext
  have z52 := q50.size
  have X53 := X49.trans q50
  clear X49
  replace o11 := o11.ext q50
  replace o18 := o18.ext q50
  replace o44 := o44.ext q50
  replace rc := q50.cell rc
  replace rd := q50.cell rd
  clear q50
  clear o44
  go_wp2
  go_ret
  exact ⟨rfl, X53⟩

end Go.Proofs.Ytkfpcbafhgolnaa
