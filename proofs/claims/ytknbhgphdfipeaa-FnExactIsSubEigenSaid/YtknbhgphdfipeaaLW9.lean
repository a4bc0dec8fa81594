/- The walks of laws over eigenvectors. The arguments fit int64. -/
import Derived.Test.YtknbhgphdfipeaaE9
import Derived.Test.YtknbhgphdfipeaaH3
namespace Go.Proofs.Ytknbhgphdfipeaa
set_option linter.unusedVariables false
open Go.RowKit

set_option maxHeartbeats 2000000 in
theorem FnExactIsEigenVector_walk {w : World} (a0 : Option Addr) (cap0 : Nat) (xs0 : List (List Int)) (h0 : MatAt w a0 xs0) (hb0 : MBd xs0) (x1 y1 : Int) (hx1 : -9223372036854775808 ≤ x1 ∧ x1 ≤ 9223372036854775807) (hy1 : -9223372036854775808 ≤ y1 ∧ y1 ≤ 9223372036854775807) (a2 : Option Addr) (cap2 : Nat) (xs2 : List Int) (h2 : IntsAt w a2 xs2) (hb2 : IBd xs2) :
    Calls Try.prog 5 #[.slice a0 xs0.length cap0, .agg #[.int .i64 x1, .int .i64 y1], .slice a2 xs2.length cap2] w fun e w' => e = .returned (.bool true) ∧ Ext w w' := by
  obtain ⟨WB, hWB, HB, hsB, X0⟩ := alloc2_facts w (.int .i64 x1) (.int .i64 y1) 24
  obtain ⟨rc, rd, -, -⟩ := HB
  have hlen2 := h2.len
  by_cases hs2 : 1048576 < xs2.length
  · go_enter Try.func5, Try.ntmps5
    go_wp2
    go_ret
    exact ⟨rfl, X0⟩
  have hl2 : xs2.length ≤ 1048576 := by omega
  by_cases hs0 : (1048576 - xs0.length - tot xs0 : Int) < 0
  · go_enter Try.func5, Try.ntmps5
    go_wp2_with fail
    refine (szM_c _ _ _ _ _ (h0.mono X0) (by omega) (by omega)).mono ?_
    rintro e w' ⟨rfl, hq⟩
    rw [if_pos hs0]
    go_wp2
    go_ret
    exact ⟨rfl, X0.qt hq⟩
  have hnn0 : 0 ≤ (1048576 - xs0.length - tot xs0 : Int) := by omega
  have hl0 : xs0.length ≤ 1048576 := by omega
  have hr0 : ∀ i, i < xs0.length → (row xs0 i).length ≤ 1048576 := fun i hi => by have := len_le_tot xs0 i hi; omega
  have ht0 : tot xs0 ≤ 1048576 := by omega
  replace hr0 := Lib.hid hr0
  clear hs0
  go_enter Try.func5, Try.ntmps5
  go_wp2_with fail
  refine (szM_c _ _ _ _ _ (h0.mono X0) (by omega) (by omega)).mono ?_
  rintro e W2 ⟨rfl, q1⟩
  rw [if_neg (Int.not_lt.2 hnn0)]
  replace q1 := q1.ext
  have z3 := q1.size
  have X4 := X0.trans q1
  clear X0
  replace rc := q1.cell rc
  replace rd := q1.cell rd
  clear q1
  go_wp2_with fail
  go_region_held3 (fun w' => Ext W2 w' ∧ w'.cell? ⟨w.heap.size, 0, none⟩ = some (.int .i64 x1) ∧ w'.cell? ⟨w.heap.size, 1, none⟩ = some (.int .i64 y1))
    ((refine keepR1 rc rd ?_; (first | exact Ext.refl _ | exact (Ext.refl _).drew | exact Ext.trans ((Ext.refl _).drew) hEr | exact Ext.trans (And.left ‹_›) hEr | exact Ext.trans ((Ext.refl _).drew) hES | exact Ext.trans (And.left ‹_›) hES | exact Ext.trans ((Ext.refl _).drew) hEm0 | exact Ext.trans (And.left ‹_›) hEm0 | exact Ext.trans ((Ext.refl _).drew) hEi2 | exact Ext.trans (And.left ‹_›) hEi2)))
    (first | (go_at_call 17; refine (toM_c _ _ _ _ (h0.mono (by first | exact X4 | exact (X4.drew) | exact (Ext.trans X4 (And.left ‹Ext W2 _ ∧ _›)))) hl0 hr0.out).mono ?_; rintro e wM0 ⟨pM0, cM0, rfl, oM0, hEm0⟩) | (go_at_call 18; refine (toRatio_c _ _ _).mono ?_; rintro e wR ⟨rfl, hEr⟩) | (go_at_call 26; refine (toI_c _ _ _ _ (h2.mono (by first | exact X4 | exact (X4.drew) | exact (Ext.trans X4 (And.left ‹Ext W2 _ ∧ _›)))) hl2).mono ?_; rintro e wI2 ⟨pI2, cI2, rfl, oI2, hEi2⟩) | (go_at_call 25; refine (specEig_c _ _ _ _ _ _ _ _ _ (oM0.mat.mono (Ext.trans (hEr) hEi2)) (oI2.ints.mono (Ext.refl _))).mono ?_; rintro e wS ⟨rfl, hES⟩))
  rename_i hH5
  obtain ⟨W6, rfl⟩ : ∃ W6, W6 = wS := ⟨_, rfl⟩
  have E7 := hH5.1
  have z8 := E7.size
  have X9 := X4.trans E7
  clear X4
  replace rc := E7.cell rc
  replace rd := E7.cell rd
  clear E7
  go_wp2_with fail
  refine (toM_c _ _ _ _ (h0.mono X9) hl0 hr0.out).mono ?_
  rintro e W12 ⟨p13, c14, rfl, o11, E10⟩
  replace o11 := HasM.of o11
  have z15 := E10.size
  have X16 := X9.trans E10
  clear X9
  replace rc := E10.cell rc
  replace rd := E10.cell rd
  clear E10
  go_wp2_with fail
  refine (toI_c _ _ _ _ (h2.mono X16) hl2).mono ?_
  rintro e W19 ⟨p20, c21, rfl, o18, E17⟩
  replace o18 := HasI.of o18
  have z22 := E17.size
  have X23 := X16.trans E17
  clear X16
  replace o11 := o11.ext E17
  replace rc := E17.cell rc
  replace rd := E17.cell rd
  clear E17
  go_wp2_with fail
  refine (toRatio_c _ _ _).mono ?_
  rintro e W25 ⟨rfl, E24⟩
  have z26 := E24.size
  have X27 := X23.trans E24
  clear X23
  replace o11 := o11.ext E24
  replace o18 := o18.ext E24
  replace rc := E24.cell rc
  replace rd := E24.cell rd
  clear E24
  go_wp2_with fail
  refine (implEig_c _ _ _ _ _ _ _ _ _ o11.mat o18.ints).mono ?_
  rintro e W28 ⟨rfl, E29⟩
  have z30 := E29.size
  have X31 := X27.trans E29
  clear X27
  replace o11 := o11.ext E29
  replace o18 := o18.ext E29
  replace rc := E29.cell rc
  replace rd := E29.cell rd
  clear E29
  go_wp2_with fail
  refine (toM_c _ _ _ _ (h0.mono X31) hl0 hr0.out).mono ?_
  rintro e W34 ⟨p35, c36, rfl, o33, E32⟩
  replace o33 := HasM.of o33
  have z37 := E32.size
  have X38 := X31.trans E32
  clear X31
  replace o11 := o11.ext E32
  replace o18 := o18.ext E32
  replace rc := E32.cell rc
  replace rd := E32.cell rd
  clear E32
  go_wp2_with fail
  refine (asB (c := true) (by simp) (eqM_c _ _ _ _ _ _ _ o11.mat o33.mat)).mono ?_
  rintro e W40 ⟨rfl, q39⟩
  replace q39 := q39.ext
  have z41 := q39.size
  have X42 := X38.trans q39
  clear X38
  replace o11 := o11.ext q39
  replace o18 := o18.ext q39
  replace o33 := o33.ext q39
  replace rc := q39.cell rc
  replace rd := q39.cell rd
  clear q39
  clear o33
  go_wp2_with fail
  refine (toI_c _ _ _ _ (h2.mono X42) hl2).mono ?_
  rintro e W45 ⟨p46, c47, rfl, o44, E43⟩
  replace o44 := HasI.of o44
  have z48 := E43.size
  have X49 := X42.trans E43
  clear X42
  replace o11 := o11.ext E43
  replace o18 := o18.ext E43
  replace rc := E43.cell rc
  replace rd := E43.cell rd
  clear E43
  go_wp2_with fail
  refine (asB (c := true) (by simp) (eqI_c _ _ _ _ _ _ _ o18.ints o44.ints)).mono ?_
  rintro e W51 ⟨rfl, q50⟩
  replace q50 := q50.ext
  have z52 := q50.size
  have X53 := X49.trans q50
  clear X49
  replace o11 := o11.ext q50
  replace o18 := o18.ext q50
  replace o44 := o44.ext q50
  replace rc := q50.cell rc
  replace rd := q50.cell rd
  clear q50
  clear o44
  go_wp2
  go_ret
  exact ⟨rfl, X53⟩

set_option maxHeartbeats 2000000 in
theorem FnExactIsSubEigen_walk {w : World} (a0 : Option Addr) (cap0 : Nat) (xs0 : List (List Int)) (h0 : MatAt w a0 xs0) (hb0 : MBd xs0) (x1 y1 : Int) (hx1 : -9223372036854775808 ≤ x1 ∧ x1 ≤ 9223372036854775807) (hy1 : -9223372036854775808 ≤ y1 ∧ y1 ≤ 9223372036854775807) (a2 : Option Addr) (cap2 : Nat) (xs2 : List Int) (h2 : IntsAt w a2 xs2) (hb2 : IBd xs2) :
    Calls Try.prog 6 #[.slice a0 xs0.length cap0, .agg #[.int .i64 x1, .int .i64 y1], .slice a2 xs2.length cap2] w fun e w' => e = .returned (.bool true) ∧ Ext w w' := by
  obtain ⟨WB, hWB, HB, hsB, X0⟩ := alloc2_facts w (.int .i64 x1) (.int .i64 y1) 24
  obtain ⟨rc, rd, -, -⟩ := HB
  have hlen2 := h2.len
  by_cases hs2 : 1048576 < xs2.length
  · go_enter Try.func6, Try.ntmps6
    go_wp2
    go_ret
    exact ⟨rfl, X0⟩
  have hl2 : xs2.length ≤ 1048576 := by omega
  by_cases hs0 : (1048576 - xs0.length - tot xs0 : Int) < 0
  · go_enter Try.func6, Try.ntmps6
    go_wp2_with fail
    refine (szM_c _ _ _ _ _ (h0.mono X0) (by omega) (by omega)).mono ?_
    rintro e w' ⟨rfl, hq⟩
    rw [if_pos hs0]
    go_wp2
    go_ret
    exact ⟨rfl, X0.qt hq⟩
  have hnn0 : 0 ≤ (1048576 - xs0.length - tot xs0 : Int) := by omega
  have hl0 : xs0.length ≤ 1048576 := by omega
  have hr0 : ∀ i, i < xs0.length → (row xs0 i).length ≤ 1048576 := fun i hi => by have := len_le_tot xs0 i hi; omega
  have ht0 : tot xs0 ≤ 1048576 := by omega
  replace hr0 := Lib.hid hr0
  clear hs0
  go_enter Try.func6, Try.ntmps6
  go_wp2_with fail
  refine (szM_c _ _ _ _ _ (h0.mono X0) (by omega) (by omega)).mono ?_
  rintro e W2 ⟨rfl, q1⟩
  rw [if_neg (Int.not_lt.2 hnn0)]
  replace q1 := q1.ext
  have z3 := q1.size
  have X4 := X0.trans q1
  clear X0
  replace rc := q1.cell rc
  replace rd := q1.cell rd
  clear q1
  go_wp2_with fail
  go_region_held3 (fun w' => Ext W2 w' ∧ w'.cell? ⟨w.heap.size, 0, none⟩ = some (.int .i64 x1) ∧ w'.cell? ⟨w.heap.size, 1, none⟩ = some (.int .i64 y1))
    ((refine keepR1 rc rd ?_; (first | exact Ext.refl _ | exact (Ext.refl _).drew | exact Ext.trans ((Ext.refl _).drew) hEr | exact Ext.trans (And.left ‹_›) hEr | exact Ext.trans ((Ext.refl _).drew) hES | exact Ext.trans (And.left ‹_›) hES | exact Ext.trans ((Ext.refl _).drew) hEm0 | exact Ext.trans (And.left ‹_›) hEm0 | exact Ext.trans ((Ext.refl _).drew) hEi2 | exact Ext.trans (And.left ‹_›) hEi2)))
    (first | (go_at_call 17; refine (toM_c _ _ _ _ (h0.mono (by first | exact X4 | exact (X4.drew) | exact (Ext.trans X4 (And.left ‹Ext W2 _ ∧ _›)))) hl0 hr0.out).mono ?_; rintro e wM0 ⟨pM0, cM0, rfl, oM0, hEm0⟩) | (go_at_call 18; refine (toRatio_c _ _ _).mono ?_; rintro e wR ⟨rfl, hEr⟩) | (go_at_call 26; refine (toI_c _ _ _ _ (h2.mono (by first | exact X4 | exact (X4.drew) | exact (Ext.trans X4 (And.left ‹Ext W2 _ ∧ _›)))) hl2).mono ?_; rintro e wI2 ⟨pI2, cI2, rfl, oI2, hEi2⟩) | (go_at_call 29; refine (specSub_c _ _ _ _ _ _ _ _ _ (oM0.mat.mono (Ext.trans (hEr) hEi2)) (oI2.ints.mono (Ext.refl _))).mono ?_; rintro e wS ⟨rfl, hES⟩))
  rename_i hH5
  obtain ⟨W6, rfl⟩ : ∃ W6, W6 = wS := ⟨_, rfl⟩
  have E7 := hH5.1
  have z8 := E7.size
  have X9 := X4.trans E7
  clear X4
  replace rc := E7.cell rc
  replace rd := E7.cell rd
  clear E7
  go_wp2_with fail
  refine (toM_c _ _ _ _ (h0.mono X9) hl0 hr0.out).mono ?_
  rintro e W12 ⟨p13, c14, rfl, o11, E10⟩
  replace o11 := HasM.of o11
  have z15 := E10.size
  have X16 := X9.trans E10
  clear X9
  replace rc := E10.cell rc
  replace rd := E10.cell rd
  clear E10
  go_wp2_with fail
  refine (toI_c _ _ _ _ (h2.mono X16) hl2).mono ?_
  rintro e W19 ⟨p20, c21, rfl, o18, E17⟩
  replace o18 := HasI.of o18
  have z22 := E17.size
  have X23 := X16.trans E17
  clear X16
  replace o11 := o11.ext E17
  replace rc := E17.cell rc
  replace rd := E17.cell rd
  clear E17
  go_wp2_with fail
  refine (toRatio_c _ _ _).mono ?_
  rintro e W25 ⟨rfl, E24⟩
  have z26 := E24.size
  have X27 := X23.trans E24
  clear X23
  replace o11 := o11.ext E24
  replace o18 := o18.ext E24
  replace rc := E24.cell rc
  replace rd := E24.cell rd
  clear E24
  go_wp2_with fail
  refine (implSub_c _ _ _ _ _ _ _ _ _ o11.mat o18.ints).mono ?_
  rintro e W28 ⟨rfl, E29⟩
  have z30 := E29.size
  have X31 := X27.trans E29
  clear X27
  replace o11 := o11.ext E29
  replace o18 := o18.ext E29
  replace rc := E29.cell rc
  replace rd := E29.cell rd
  clear E29
  go_wp2_with fail
  refine (toM_c _ _ _ _ (h0.mono X31) hl0 hr0.out).mono ?_
  rintro e W34 ⟨p35, c36, rfl, o33, E32⟩
  replace o33 := HasM.of o33
  have z37 := E32.size
  have X38 := X31.trans E32
  clear X31
  replace o11 := o11.ext E32
  replace o18 := o18.ext E32
  replace rc := E32.cell rc
  replace rd := E32.cell rd
  clear E32
  go_wp2_with fail
  refine (asB (c := true) (by simp) (eqM_c _ _ _ _ _ _ _ o11.mat o33.mat)).mono ?_
  rintro e W40 ⟨rfl, q39⟩
  replace q39 := q39.ext
  have z41 := q39.size
  have X42 := X38.trans q39
  clear X38
  replace o11 := o11.ext q39
  replace o18 := o18.ext q39
  replace o33 := o33.ext q39
  replace rc := q39.cell rc
  replace rd := q39.cell rd
  clear q39
  clear o33
  go_wp2_with fail
  refine (toI_c _ _ _ _ (h2.mono X42) hl2).mono ?_
  rintro e W45 ⟨p46, c47, rfl, o44, E43⟩
  replace o44 := HasI.of o44
  have z48 := E43.size
  have X49 := X42.trans E43
  clear X42
  replace o11 := o11.ext E43
  replace o18 := o18.ext E43
  replace rc := E43.cell rc
  replace rd := E43.cell rd
  clear E43
  go_wp2_with fail
  refine (asB (c := true) (by simp) (eqI_c _ _ _ _ _ _ _ o18.ints o44.ints)).mono ?_
  rintro e W51 ⟨rfl, q50⟩
  replace q50 := q50.ext
  have z52 := q50.size
  have X53 := X49.trans q50
  clear X49
  replace o11 := o11.ext q50
  replace o18 := o18.ext q50
  replace o44 := o44.ext q50
  replace rc := q50.cell rc
  replace rd := q50.cell rd
  clear q50
  clear o44
  go_wp2
  go_ret
  exact ⟨rfl, X53⟩

end Go.Proofs.Ytknbhgphdfipeaa
