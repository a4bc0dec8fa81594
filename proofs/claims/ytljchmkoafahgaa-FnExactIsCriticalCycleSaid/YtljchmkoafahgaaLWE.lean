/- The walk of the law over critical cycles. The arguments fit int64. -/
import Derived.Test.YtljchmkoafahgaaE15
import Derived.Test.YtljchmkoafahgaaH3
namespace Go.Proofs.Ytljchmkoafahgaa
set_option linter.unusedVariables false
open Go.RowKit

set_option maxHeartbeats 2000000 in
theorem FnExactIsCriticalCycle_walk {w : World} (a0 : Option Addr) (cap0 : Nat) (xs0 : List (List Int)) (h0 : MatAt w a0 xs0) (hb0 : MBd xs0) (a1 : Option Addr) (cap1 : Nat) (xs1 : List Int) (h1 : IntsAt w a1 xs1) (hb1 : IBd xs1) :
    Calls Try.prog 4 #[.slice a0 xs0.length cap0, .slice a1 xs1.length cap1] w fun e w' => e = .returned (.bool true) ∧ Ext w w' := by
  have hlen1 := h1.len
  by_cases hs1 : 1048576 < xs1.length
  · go_enter Try.func4, Try.ntmps4
    go_wp2
    go_ret
    exact ⟨rfl, Ext.refl _⟩
  have hl1 : xs1.length ≤ 1048576 := by omega
  have X0 := Ext.refl w
  by_cases hs0 : (1048576 - xs0.length - tot xs0 : Int) < 0
  · go_enter Try.func4, Try.ntmps4
    go_wp2_with fail
    refine (szM_c _ _ _ _ _ (h0.mono X0) (by omega) (by omega)).mono ?_
    rintro e w' ⟨rfl, hq⟩
    rw [if_pos hs0]
    go_wp2
    go_ret
    exact ⟨rfl, X0.qt hq⟩
  have hnn0 : 0 ≤ (1048576 - xs0.length - tot xs0 : Int) := by omega
  have hl0 : xs0.length ≤ 1048576 := by omega
  have hr0 : ∀ i, i < xs0.length → (row xs0 i).length ≤ 1048576 := fun i hi => by have := len_le_tot xs0 i hi; omega
  have ht0 : tot xs0 ≤ 1048576 := by omega
  replace hr0 := Lib.hid hr0
  clear hs0
  go_enter Try.func4, Try.ntmps4
  go_wp2_with fail
  refine (szM_c _ _ _ _ _ (h0.mono X0) (by omega) (by omega)).mono ?_
  rintro e W2 ⟨rfl, q1⟩
  rw [if_neg (Int.not_lt.2 hnn0)]
  replace q1 := q1.ext
  have z3 := q1.size
  have X4 := X0.trans q1
  clear X0
  clear q1
  go_wp2_with fail
  refine (toM_c _ _ _ _ (h0.mono X4) hl0 hr0.out).mono ?_
  rintro e W7 ⟨p8, c9, rfl, o6, E5⟩
  replace o6 := HasM.of o6
  have z10 := E5.size
  have X11 := X4.trans E5
  clear X4
  clear E5
  go_wp2_with fail
  refine (toI_c _ _ _ _ (h1.mono X11) hl1).mono ?_
  rintro e W14 ⟨p15, c16, rfl, o13, E12⟩
  replace o13 := HasI.of o13
  have z17 := E12.size
  have X18 := X11.trans E12
  clear X11
  replace o6 := o6.ext E12
  clear E12
  go_wp2_with fail
  refine (specCritC_c _ _ _ _ _ _ _ o6.mat o13.2.1 hl1).mono ?_
  rintro e W19 ⟨rfl, E20⟩
  have z21 := E20.size
  have X22 := X18.trans E20
  clear X18
  replace o6 := o6.ext E20
  replace o13 := o13.ext E20
  clear E20
  clear o6
  clear o13
  go_wp2_with fail
  refine (toM_c _ _ _ _ (h0.mono X22) hl0 hr0.out).mono ?_
  rintro e W25 ⟨p26, c27, rfl, o24, E23⟩
  replace o24 := HasM.of o24
  have z28 := E23.size
  have X29 := X22.trans E23
  clear X22
  clear E23
  go_wp2_with fail
  refine (toI_c _ _ _ _ (h1.mono X29) hl1).mono ?_
  rintro e W32 ⟨p33, c34, rfl, o31, E30⟩
  replace o31 := HasI.of o31
  have z35 := E30.size
  have X36 := X29.trans E30
  clear X29
  replace o24 := o24.ext E30
  clear E30
  go_wp2_with fail
  refine (implCritC_c _ _ _ _ _ _ _ o24.mat o31.2.1 hl1).mono ?_
  rintro e W37 ⟨rfl, E38⟩
  have z39 := E38.size
  have X40 := X36.trans E38
  clear X36
  replace o24 := o24.ext E38
  replace o31 := o31.ext E38
  clear E38
  go_wp2_with fail
  refine (toM_c _ _ _ _ (h0.mono X40) hl0 hr0.out).mono ?_
  rintro e W43 ⟨p44, c45, rfl, o42, E41⟩
  replace o42 := HasM.of o42
  have z46 := E41.size
  have X47 := X40.trans E41
  clear X40
  replace o24 := o24.ext E41
  replace o31 := o31.ext E41
  clear E41
  go_wp2_with fail
  refine (asB (c := true) (by simp) (eqM_c _ _ _ _ _ _ _ o24.mat o42.mat)).mono ?_
  rintro e W49 ⟨rfl, q48⟩
  replace q48 := q48.ext
  have z50 := q48.size
  have X51 := X47.trans q48
  clear X47
  replace o24 := o24.ext q48
  replace o31 := o31.ext q48
  replace o42 := o42.ext q48
  clear q48
  clear o42
  go_wp2_with fail
  refine (toI_c _ _ _ _ (h1.mono X51) hl1).mono ?_
  rintro e W54 ⟨p55, c56, rfl, o53, E52⟩
  replace o53 := HasI.of o53
  have z57 := E52.size
  have X58 := X51.trans E52
  clear X51
  replace o24 := o24.ext E52
  replace o31 := o31.ext E52
  clear E52
  go_wp2_with fail
  refine (asB (c := true) (by simp) (eqI_c _ _ _ _ _ _ _ o31.ints o53.ints)).mono ?_
  rintro e W60 ⟨rfl, q59⟩
  replace q59 := q59.ext
  have z61 := q59.size
  have X62 := X58.trans q59
  clear X58
  replace o24 := o24.ext q59
  replace o31 := o31.ext q59
  replace o53 := o53.ext q59
  clear q59
  clear o53
  go_wp2
  go_ret
  exact ⟨rfl, X62⟩

end Go.Proofs.Ytljchmkoafahgaa
