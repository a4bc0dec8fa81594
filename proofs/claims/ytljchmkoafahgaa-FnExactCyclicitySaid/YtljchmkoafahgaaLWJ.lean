/- The walk of the law over the cyclicity. The arguments fit int64. -/
import Derived.Test.YtljchmkoafahgaaE24
import Derived.Test.YtljchmkoafahgaaGB
namespace Go.Proofs.Ytljchmkoafahgaa
set_option linter.unusedVariables false
open Go.RowKit

set_option maxHeartbeats 2000000 in
theorem FnExactCyclicity_walk {w : World} (a0 : Option Addr) (cap0 : Nat) (xs0 : List (List Int)) (h0 : MatAt w a0 xs0) (hb0 : MBd xs0) :
    Calls Try.prog 10 #[.slice a0 xs0.length cap0] w fun e w' => e = .returned (.bool true) ∧ Ext w w' := by
  have X0 := Ext.refl w
  by_cases hs0 : (1048576 - xs0.length - tot xs0 : Int) < 0
  · go_enter Try.func10, Try.ntmps10
    go_wp2_with fail
    refine (szM_c _ _ _ _ _ (h0.mono X0) (by omega) (by omega)).mono ?_
    rintro e w' ⟨rfl, hq⟩
    rw [if_pos hs0]
    go_wp2
    go_ret
    exact ⟨rfl, X0.qt hq⟩
  have hnn0 : 0 ≤ (1048576 - xs0.length - tot xs0 : Int) := by omega
  have hl0 : xs0.length ≤ 1048576 := by omega
  have hr0 : ∀ i, i < xs0.length → (row xs0 i).length ≤ 1048576 := fun i hi => by have := len_le_tot xs0 i hi; omega
  have ht0 : tot xs0 ≤ 1048576 := by omega
  replace hr0 := Lib.hid hr0
  clear hs0
  go_enter Try.func10, Try.ntmps10
  go_wp2_with fail
  refine (szM_c _ _ _ _ _ (h0.mono X0) (by omega) (by omega)).mono ?_
  rintro e W2 ⟨rfl, q1⟩
  rw [if_neg (Int.not_lt.2 hnn0)]
  replace q1 := q1.ext
  have z3 := q1.size
  have X4 := X0.trans q1
  clear X0
  clear q1
  go_wp2_with fail
  refine (toM_c _ _ _ _ (h0.mono X4) hl0 hr0.out).mono ?_
  rintro e W7 ⟨p8, c9, rfl, o6, E5⟩
  replace o6 := HasM.of o6
  have z10 := E5.size
  have X11 := X4.trans E5
  clear X4
  clear E5
  go_wp2_with fail
  refine (specCyclicity_c _ _ _ _ o6.mat).mono ?_
  rintro e W12 ⟨rfl, E13⟩
  have z14 := E13.size
  have X15 := X11.trans E13
  clear X11
  replace o6 := o6.ext E13
  clear E13
  clear o6
  go_wp2_with fail
  refine (toM_c _ _ _ _ (h0.mono X15) hl0 hr0.out).mono ?_
  rintro e W18 ⟨p19, c20, rfl, o17, E16⟩
  replace o17 := HasM.of o17
  have z21 := E16.size
  have X22 := X15.trans E16
  clear X15
  clear E16
  go_wp2_with fail
  refine (implCyclicity_c _ _ _ _ o17.mat).mono ?_
  rintro e W23 ⟨rfl, E24⟩
  have z25 := E24.size
  have X26 := X22.trans E24
  clear X22
  replace o17 := o17.ext E24
  clear E24
  go_wp2_with fail
  refine (toM_c _ _ _ _ (h0.mono X26) hl0 hr0.out).mono ?_
  rintro e W29 ⟨p30, c31, rfl, o28, E27⟩
  replace o28 := HasM.of o28
  have z32 := E27.size
  have X33 := X26.trans E27
  clear X26
  replace o17 := o17.ext E27
  clear E27
  go_wp2_with fail
  refine (asB (c := true) (by simp) (eqM_c _ _ _ _ _ _ _ o17.mat o28.mat)).mono ?_
  rintro e W35 ⟨rfl, q34⟩
  replace q34 := q34.ext
  have z36 := q34.size
  have X37 := X33.trans q34
  clear X33
  replace o17 := o17.ext q34
  replace o28 := o28.ext q34
  clear q34
  clear o28
  go_wp2
  go_ret
  exact ⟨rfl, X37⟩

end Go.Proofs.Ytljchmkoafahgaa
