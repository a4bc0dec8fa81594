/- The walk of the law over certificates. The arguments fit int64. -/
import Derived.Test.YtknbhgphdfipeaaE11
import Derived.Test.YtknbhgphdfipeaaH3
namespace Go.Proofs.Ytknbhgphdfipeaa
set_option linter.unusedVariables false
open Go.RowKit

set_option maxHeartbeats 2000000 in
theorem FnExactIsMeanCertificate_walk {w : World} (a0 : Option Addr) (cap0 : Nat) (xs0 : List (List Int)) (h0 : MatAt w a0 xs0) (hb0 : MBd xs0) (x1 y1 : Int) (hx1 : -9223372036854775808 ≤ x1 ∧ x1 ≤ 9223372036854775807) (hy1 : -9223372036854775808 ≤ y1 ∧ y1 ≤ 9223372036854775807) (a2 : Option Addr) (cap2 : Nat) (xs2 : List Int) (h2 : IntsAt w a2 xs2) (hb2 : IBd xs2) (a3 : Option Addr) (cap3 : Nat) (xs3 : List Int) (h3 : IntsAt w a3 xs3) (hb3 : IBd xs3) :
    Calls Try.prog 12 #[.slice a0 xs0.length cap0, .agg #[.int .i64 x1, .int .i64 y1], .slice a2 xs2.length cap2, .slice a3 xs3.length cap3] w fun e w' => e = .returned (.bool true) ∧ Ext w w' := by
  obtain ⟨WB, hWB, HB, hsB, X0⟩ := alloc2_facts w (.int .i64 x1) (.int .i64 y1) 24
  obtain ⟨rc, rd, -, -⟩ := HB
  have hlen2 := h2.len
  have hlen3 := h3.len
  by_cases hs2 : 1048576 < xs2.length
  · go_enter Try.func12, Try.ntmps12
    go_wp2
    go_ret
    exact ⟨rfl, X0⟩
  have hl2 : xs2.length ≤ 1048576 := by omega
  by_cases hs3 : 1048576 < xs3.length
  · go_enter Try.func12, Try.ntmps12
    go_wp2
    go_ret
    exact ⟨rfl, X0⟩
  have hl3 : xs3.length ≤ 1048576 := by omega
  by_cases hs0 : (1048576 - xs0.length - tot xs0 : Int) < 0
  · go_enter Try.func12, Try.ntmps12
    go_wp2_with fail
    refine (szM_c _ _ _ _ _ (h0.mono X0) (by omega) (by omega)).mono ?_
    rintro e w' ⟨rfl, hq⟩
    rw [if_pos hs0]
    go_wp2
    go_ret
    exact ⟨rfl, X0.qt hq⟩
  have hnn0 : 0 ≤ (1048576 - xs0.length - tot xs0 : Int) := by omega
  have hl0 : xs0.length ≤ 1048576 := by omega
  have hr0 : ∀ i, i < xs0.length → (row xs0 i).length ≤ 1048576 := fun i hi => by have := len_le_tot xs0 i hi; omega
  have ht0 : tot xs0 ≤ 1048576 := by omega
  replace hr0 := Lib.hid hr0
  clear hs0
  go_enter Try.func12, Try.ntmps12
  go_wp2_with fail
  refine (szM_c _ _ _ _ _ (h0.mono X0) (by omega) (by omega)).mono ?_
  rintro e W2 ⟨rfl, q1⟩
  rw [if_neg (Int.not_lt.2 hnn0)]
  replace q1 := q1.ext
  have z3 := q1.size
  have X4 := X0.trans q1
  clear X0
  replace rc := q1.cell rc
  replace rd := q1.cell rd
  clear q1
  go_wp2_with fail
  go_region_held3 (fun w' => Ext W2 w' ∧ w'.cell? ⟨w.heap.size, 0, none⟩ = some (.int .i64 x1) ∧ w'.cell? ⟨w.heap.size, 1, none⟩ = some (.int .i64 y1))
    ((refine keepR1 rc rd ?_; (first | exact Ext.refl _ | exact (Ext.refl _).drew | exact Ext.trans ((Ext.refl _).drew) hEr | exact Ext.trans (And.left ‹_›) hEr | exact Ext.trans ((Ext.refl _).drew) hES | exact Ext.trans (And.left ‹_›) hES | exact Ext.trans ((Ext.refl _).drew) hEm0 | exact Ext.trans (And.left ‹_›) hEm0 | exact Ext.trans ((Ext.refl _).drew) hEi2 | exact Ext.trans (And.left ‹_›) hEi2 | exact Ext.trans ((Ext.refl _).drew) hEi3 | exact Ext.trans (And.left ‹_›) hEi3)))
    (first | (go_at_call 17; refine (toM_c _ _ _ _ (h0.mono (by first | exact X4 | exact (X4.drew) | exact (Ext.trans X4 (And.left ‹Ext W2 _ ∧ _›)))) hl0 hr0.out).mono ?_; rintro e wM0 ⟨pM0, cM0, rfl, oM0, hEm0⟩) | (go_at_call 18; refine (toRatio_c _ _ _).mono ?_; rintro e wR ⟨rfl, hEr⟩) | (go_at_call 26; refine (toI_c _ _ _ _ (by exact h2.mono (by first | exact X4 | exact (X4.drew) | exact (Ext.trans X4 (And.left ‹Ext W2 _ ∧ _›)))) (by exact hl2)).mono ?_; rintro e wI2 ⟨pI2, cI2, rfl, oI2, hEi2⟩) | (go_at_call 26; refine (toI_c _ _ _ _ (by exact h3.mono (by first | exact X4 | exact (X4.drew) | exact (Ext.trans X4 (And.left ‹Ext W2 _ ∧ _›)))) (by exact hl3)).mono ?_; rintro e wI3 ⟨pI3, cI3, rfl, oI3, hEi3⟩) | (go_at_call 44; refine (specCert_c _ _ _ _ _ _ _ _ _ _ _ _ (oM0.mat.mono (Ext.trans (Ext.trans (hEr) hEi2) hEi3)) (oI2.ext (hEi3)) hl2 (oI3.ints.mono (Ext.refl _))).mono ?_; rintro e wS ⟨rfl, hES⟩))
  rename_i hH5
  obtain ⟨W6, rfl⟩ : ∃ W6, W6 = wS := ⟨_, rfl⟩
  have E7 := hH5.1
  have z8 := E7.size
  have X9 := X4.trans E7
  clear X4
  replace rc := E7.cell rc
  replace rd := E7.cell rd
  clear E7
  go_wp2_with fail
  refine (toM_c _ _ _ _ (h0.mono X9) hl0 hr0.out).mono ?_
  rintro e W12 ⟨p13, c14, rfl, o11, E10⟩
  replace o11 := HasM.of o11
  have z15 := E10.size
  have X16 := X9.trans E10
  clear X9
  replace rc := E10.cell rc
  replace rd := E10.cell rd
  clear E10
  go_wp2_with fail
  refine (toI_c _ _ _ _ (h2.mono X16) hl2).mono ?_
  rintro e W19 ⟨p20, c21, rfl, o18, E17⟩
  replace o18 := HasI.of o18
  have z22 := E17.size
  have X23 := X16.trans E17
  clear X16
  replace o11 := o11.ext E17
  replace rc := E17.cell rc
  replace rd := E17.cell rd
  clear E17
  go_wp2_with fail
  refine (toI_c _ _ _ _ (h3.mono X23) hl3).mono ?_
  rintro e W26 ⟨p27, c28, rfl, o25, E24⟩
  replace o25 := HasI.of o25
  have z29 := E24.size
  have X30 := X23.trans E24
  clear X23
  replace o11 := o11.ext E24
  replace o18 := o18.ext E24
  replace rc := E24.cell rc
  replace rd := E24.cell rd
  clear E24
  go_wp2_with fail
  refine (toRatio_c _ _ _).mono ?_
  rintro e W32 ⟨rfl, E31⟩
  have z33 := E31.size
  have X34 := X30.trans E31
  clear X30
  replace o11 := o11.ext E31
  replace o18 := o18.ext E31
  replace o25 := o25.ext E31
  replace rc := E31.cell rc
  replace rd := E31.cell rd
  clear E31
  go_wp2_with fail
  refine (implCert_c _ _ _ _ _ _ _ _ _ _ _ _ o11.mat o18.2.1 hl2 o25.ints).mono ?_
  rintro e W35 ⟨rfl, E36⟩
  have z37 := E36.size
  have X38 := X34.trans E36
  clear X34
  replace o11 := o11.ext E36
  replace o18 := o18.ext E36
  replace o25 := o25.ext E36
  replace rc := E36.cell rc
  replace rd := E36.cell rd
  clear E36
  go_wp2_with fail
  refine (toM_c _ _ _ _ (h0.mono X38) hl0 hr0.out).mono ?_
  rintro e W41 ⟨p42, c43, rfl, o40, E39⟩
  replace o40 := HasM.of o40
  have z44 := E39.size
  have X45 := X38.trans E39
  clear X38
  replace o11 := o11.ext E39
  replace o18 := o18.ext E39
  replace o25 := o25.ext E39
  replace rc := E39.cell rc
  replace rd := E39.cell rd
  clear E39
  go_wp2_with fail
  refine (asB (c := true) (by simp) (eqM_c _ _ _ _ _ _ _ o11.mat o40.mat)).mono ?_
  rintro e W47 ⟨rfl, q46⟩
  replace q46 := q46.ext
  have z48 := q46.size
  have X49 := X45.trans q46
  clear X45
  replace o11 := o11.ext q46
  replace o18 := o18.ext q46
  replace o25 := o25.ext q46
  replace o40 := o40.ext q46
  replace rc := q46.cell rc
  replace rd := q46.cell rd
  clear q46
  clear o40
  go_wp2_with fail
  refine (toI_c _ _ _ _ (h2.mono X49) hl2).mono ?_
  rintro e W52 ⟨p53, c54, rfl, o51, E50⟩
  replace o51 := HasI.of o51
  have z55 := E50.size
  have X56 := X49.trans E50
  clear X49
  replace o11 := o11.ext E50
  replace o18 := o18.ext E50
  replace o25 := o25.ext E50
  replace rc := E50.cell rc
  replace rd := E50.cell rd
  clear E50
  go_wp2_with fail
  refine (asB (c := true) (by simp) (eqI_c _ _ _ _ _ _ _ o18.ints o51.ints)).mono ?_
  rintro e W58 ⟨rfl, q57⟩
  replace q57 := q57.ext
  have z59 := q57.size
  have X60 := X56.trans q57
  clear X56
  replace o11 := o11.ext q57
  replace o18 := o18.ext q57
  replace o25 := o25.ext q57
  replace o51 := o51.ext q57
  replace rc := q57.cell rc
  replace rd := q57.cell rd
  clear q57
  clear o51
  go_wp2_with fail
  refine (toI_c _ _ _ _ (h3.mono X60) hl3).mono ?_
  rintro e W63 ⟨p64, c65, rfl, o62, E61⟩
  replace o62 := HasI.of o62
  have z66 := E61.size
  have X67 := X60.trans E61
  clear X60
  replace o11 := o11.ext E61
  replace o18 := o18.ext E61
  replace o25 := o25.ext E61
  replace rc := E61.cell rc
  replace rd := E61.cell rd
  clear E61
  go_wp2_with fail
  refine (asB (c := true) (by simp) (eqI_c _ _ _ _ _ _ _ o25.ints o62.ints)).mono ?_
  rintro e W69 ⟨rfl, q68⟩
  replace q68 := q68.ext
  have z70 := q68.size
  have X71 := X67.trans q68
  clear X67
  replace o11 := o11.ext q68
  replace o18 := o18.ext q68
  replace o25 := o25.ext q68
  replace o62 := o62.ext q68
  replace rc := q68.cell rc
  replace rd := q68.cell rd
  clear q68
  clear o62
  go_wp2
  go_ret
  exact ⟨rfl, X71⟩

end Go.Proofs.Ytknbhgphdfipeaa
