/- The walk of the law over heaviest paths. The arguments fit int64. -/
import Derived.Test.YtljchmkoafahgaaE26
import Derived.Test.YtljchmkoafahgaaGB
namespace Go.Proofs.Ytljchmkoafahgaa
set_option linter.unusedVariables false
open Go.RowKit

set_option maxHeartbeats 2000000 in
theorem FnExactHeaviestPath_walk {w : World} (a0 : Option Addr) (cap0 : Nat) (xs0 : List (List Int)) (h0 : MatAt w a0 xs0) (hb0 : MBd xs0) (a1 : Int) (ha1 : -9223372036854775808 ≤ a1 ∧ a1 ≤ 9223372036854775807) (a2 : Int) (ha2 : -9223372036854775808 ≤ a2 ∧ a2 ≤ 9223372036854775807) :
    Calls Try.prog 14 #[.slice a0 xs0.length cap0, .int .i64 a1, .int .i64 a2] w fun e w' => e = .returned (.bool true) ∧ Ext w w' := by
  have hV : (hpV xs0 a1 a2).1.length ≤ 1000000 := hpV_len _ _ _
  have X0 := Ext.refl w
  by_cases hs0 : (1048576 - xs0.length - tot xs0 : Int) < 0
  · go_enter Try.func14, Try.ntmps14
    go_wp2_with fail
    refine (szM_c _ _ _ _ _ (h0.mono X0) (by omega) (by omega)).mono ?_
    rintro e w' ⟨rfl, hq⟩
    rw [if_pos hs0]
    go_wp2
    go_ret
    exact ⟨rfl, X0.qt hq⟩
  have hnn0 : 0 ≤ (1048576 - xs0.length - tot xs0 : Int) := by omega
  have hl0 : xs0.length ≤ 1048576 := by omega
  have hr0 : ∀ i, i < xs0.length → (row xs0 i).length ≤ 1048576 := fun i hi => by have := len_le_tot xs0 i hi; omega
  have ht0 : tot xs0 ≤ 1048576 := by omega
  replace hr0 := Lib.hid hr0
  clear hs0
  go_enter Try.func14, Try.ntmps14
  go_wp2_with fail
  refine (szM_c _ _ _ _ _ (h0.mono X0) (by omega) (by omega)).mono ?_
  rintro e W2 ⟨rfl, q1⟩
  rw [if_neg (Int.not_lt.2 hnn0)]
  replace q1 := q1.ext
  have z3 := q1.size
  have X4 := X0.trans q1
  clear X0
  clear q1
  go_wp2_with fail
  refine (toM_c _ _ _ _ (h0.mono X4) hl0 hr0.out).mono ?_
  rintro e W7 ⟨p8, c9, rfl, o6, E5⟩
  replace o6 := HasM.of o6
  have z10 := E5.size
  have X11 := X4.trans E5
  clear X4
  clear E5
  go_wp2_with fail
  refine (specHp_c _ _ _ _ _ _ o6.mat).mono ?_
  rintro e W12 ⟨p15, c16, rfl, o14, E13⟩
  replace o14 := HasI.of o14
  have z17 := E13.size
  have X18 := X11.trans E13
  clear X11
  replace o6 := o6.ext E13
  clear E13
  clear o6
  go_wp2_with fail
  refine (toM_c _ _ _ _ (h0.mono X18) hl0 hr0.out).mono ?_
  rintro e W21 ⟨p22, c23, rfl, o20, E19⟩
  replace o20 := HasM.of o20
  have z24 := E19.size
  have X25 := X18.trans E19
  clear X18
  replace o14 := o14.ext E19
  clear E19
  go_wp2_with fail
  refine (implHp_c _ _ _ _ _ _ o20.mat).mono ?_
  rintro e W26 ⟨p29, c30, rfl, o28, E27⟩
  replace o28 := HasI.of o28
  have z31 := E27.size
  have X32 := X25.trans E27
  clear X25
  replace o14 := o14.ext E27
  replace o20 := o20.ext E27
  clear E27
  go_wp2_with fail
  refine (asB (c := true) (by simp) (eqI_c _ _ _ _ _ _ _ o28.ints o14.ints)).mono ?_
  rintro e W34 ⟨rfl, q33⟩
  replace q33 := q33.ext
  have z35 := q33.size
  have X36 := X32.trans q33
  clear X32
  replace o14 := o14.ext q33
  replace o20 := o20.ext q33
  replace o28 := o28.ext q33
  clear q33
  go_wp2_with fail
  refine (toM_c _ _ _ _ (h0.mono X36) hl0 hr0.out).mono ?_
  rintro e W39 ⟨p40, c41, rfl, o38, E37⟩
  replace o38 := HasM.of o38
  have z42 := E37.size
  have X43 := X36.trans E37
  clear X36
  replace o14 := o14.ext E37
  replace o20 := o20.ext E37
  replace o28 := o28.ext E37
  clear E37
  go_wp2_with fail
  refine (asB (c := true) (by simp) (eqM_c _ _ _ _ _ _ _ o20.mat o38.mat)).mono ?_
  rintro e W45 ⟨rfl, q44⟩
  replace q44 := q44.ext
  have z46 := q44.size
  have X47 := X43.trans q44
  clear X43
  replace o14 := o14.ext q44
  replace o20 := o20.ext q44
  replace o28 := o28.ext q44
  replace o38 := o38.ext q44
  clear q44
  clear o38
  go_wp2_with fail
  refine (markMH_c _ _ _ _ _ _ _ o20 (by omega) (by omega)).mono ?_
  rintro e W48 ⟨rfl, o50, C49⟩
  clear o20
  have z51 := Nat.le_of_eq C49.size.symm
  have X52 := X47.chgT C49 (by omega)
  clear X47
  replace o14 := o14.chg C49 (by omega)
  replace o28 := o28.chg C49 (by omega)
  clear C49
  clear o50
  go_wp2_with fail
  refine (asB (c := true) (by simp) (eqI_c _ _ _ _ _ _ _ o28.ints o14.ints)).mono ?_
  rintro e W54 ⟨rfl, q53⟩
  replace q53 := q53.ext
  have z55 := q53.size
  have X56 := X52.trans q53
  clear X52
  replace o14 := o14.ext q53
  replace o28 := o28.ext q53
  clear q53
  go_wp2_with fail
  refine (markIH_c _ _ _ _ _ _ _ o28 (by omega) (by omega)).mono ?_
  rintro e W57 ⟨rfl, o59, C58⟩
  clear o28
  have z60 := Nat.le_of_eq C58.size.symm
  have X61 := X56.chgT C58 (by omega)
  clear X56
  replace o14 := o14.chg C58 (by omega)
  clear C58
  go_wp2_with fail
  refine (heldI_c _ _ _ _ _ o59.ints (by omega) (by omega)).mono ?_
  rintro e W62 ⟨rfl, q63⟩
  replace q63 := q63.ext
  have z64 := q63.size
  have X65 := X61.trans q63
  clear X61
  replace o14 := o14.ext q63
  replace o59 := o59.ext q63
  clear q63
  go_wp2_with fail
  refine (toM_c _ _ _ _ (h0.mono X65) hl0 hr0.out).mono ?_
  rintro e W68 ⟨p69, c70, rfl, o67, E66⟩
  replace o67 := HasM.of o67
  have z71 := E66.size
  have X72 := X65.trans E66
  clear X65
  replace o14 := o14.ext E66
  replace o59 := o59.ext E66
  clear E66
  go_wp2_with fail
  refine (implHp_c _ _ _ _ _ _ o67.mat).mono ?_
  rintro e W73 ⟨p76, c77, rfl, o75, E74⟩
  replace o75 := HasI.of o75
  have z78 := E74.size
  have X79 := X72.trans E74
  clear X72
  replace o14 := o14.ext E74
  replace o59 := o59.ext E74
  replace o67 := o67.ext E74
  clear E74
  clear o67
  go_wp2_with fail
  refine (asB (c := true) (by simp) (eqI_c _ _ _ _ _ _ _ o75.ints o14.ints)).mono ?_
  rintro e W81 ⟨rfl, q80⟩
  replace q80 := q80.ext
  have z82 := q80.size
  have X83 := X79.trans q80
  clear X79
  replace o14 := o14.ext q80
  replace o59 := o59.ext q80
  replace o75 := o75.ext q80
  clear q80
  clear o75
  clear o14
  go_wp2_with fail
  refine (heldI_c _ _ _ _ _ o59.ints (by omega) (by omega)).mono ?_
  rintro e W84 ⟨rfl, q85⟩
  replace q85 := q85.ext
  have z86 := q85.size
  have X87 := X83.trans q85
  clear X83
  replace o59 := o59.ext q85
  clear q85
  clear o59
  go_wp2
  go_ret
  exact ⟨rfl, X87⟩

end Go.Proofs.Ytljchmkoafahgaa
