/- The walk of the law over means upstream. The arguments fit int64. -/
import Derived.Test.YtljchmkoafahgaaE18
import Derived.Test.YtljchmkoafahgaaH3
namespace Go.Proofs.Ytljchmkoafahgaa
set_option linter.unusedVariables false
open Go.RowKit

set_option maxHeartbeats 2000000 in
theorem FnExactUpstreamMean_walk {w : World} (a0 : Option Addr) (cap0 : Nat) (xs0 : List (List Int)) (h0 : MatAt w a0 xs0) (hb0 : MBd xs0) (a1 : Int) (ha1 : -9223372036854775808 ≤ a1 ∧ a1 ≤ 9223372036854775807) :
    Calls Try.prog 5 #[.slice a0 xs0.length cap0, .int .i64 a1] w fun e w' => e = .returned (.bool true) ∧ Ext w w' := by
  have X0 := Ext.refl w
  by_cases hs0 : (1048576 - xs0.length - tot xs0 : Int) < 0
  · go_enter Try.func5, Try.ntmps5
    go_wp2_with fail
    refine (szM_c _ _ _ _ _ (h0.mono X0) (by omega) (by omega)).mono ?_
    rintro e w' ⟨rfl, hq⟩
    rw [if_pos hs0]
    go_wp2
    go_ret
    exact ⟨rfl, X0.qt hq⟩
  have hnn0 : 0 ≤ (1048576 - xs0.length - tot xs0 : Int) := by omega
  have hl0 : xs0.length ≤ 1048576 := by omega
  have hr0 : ∀ i, i < xs0.length → (row xs0 i).length ≤ 1048576 := fun i hi => by have := len_le_tot xs0 i hi; omega
  have ht0 : tot xs0 ≤ 1048576 := by omega
  replace hr0 := Lib.hid hr0
  clear hs0
  go_enter Try.func5, Try.ntmps5
  go_wp2_with fail
  refine (szM_c _ _ _ _ _ (h0.mono X0) (by omega) (by omega)).mono ?_
  rintro e W2 ⟨rfl, q1⟩
  rw [if_neg (Int.not_lt.2 hnn0)]
  replace q1 := q1.ext
  have z3 := q1.size
  have X4 := X0.trans q1
  clear X0
  clear q1
  go_wp2_with fail
  refine (toM_c _ _ _ _ (h0.mono X4) hl0 hr0.out).mono ?_
  rintro e W7 ⟨p8, c9, rfl, o6, E5⟩
  replace o6 := HasM.of o6
  have z10 := E5.size
  have X11 := X4.trans E5
  clear X4
  clear E5
  go_wp2_with fail
  refine (specUp_c _ _ _ _ _ o6.mat).mono ?_
  rintro e W12 ⟨rfl, E13⟩
  have z14 := E13.size
  have X15 := X11.trans E13
  clear X11
  replace o6 := o6.ext E13
  clear E13
  generalize hm : (upV xs0 a1) = m
  have HM := Lib.hid hm
  clear hm
  obtain ⟨WA16, hWA16, HA17, q19, EA18⟩ := alloc2_facts W12 (.int .i64 m.1.1) (.int .i64 m.1.2) 25
  clear q19
  have z20 := EA18.size
  have X21 := X15.trans EA18
  clear X15
  replace o6 := o6.ext EA18
  clear EA18
  clear o6
  go_wp2_with fail
  refine (toM_c _ _ _ _ (h0.mono X21) hl0 hr0.out).mono ?_
  rintro e W24 ⟨p25, c26, rfl, o23, E22⟩
  replace o23 := HasM.of o23
  have z27 := E22.size
  have X28 := X21.trans E22
  clear X21
  replace HA17 := HA17.ext E22
  clear E22
  go_wp2_with fail
  refine (implUp_c _ _ _ _ _ o23.mat).mono ?_
  rintro e W29 ⟨rfl, E30⟩
  have z31 := E30.size
  have X32 := X28.trans E30
  clear X28
  replace HA17 := HA17.ext E30
  replace o23 := o23.ext E30
  clear E30
  rw [HM.out]
  obtain ⟨WA33, hWA33, HA34, q36, EA35⟩ := alloc2_facts W29 (.int .i64 m.1.1) (.int .i64 m.1.2) 25
  clear q36
  have z37 := EA35.size
  have X38 := X32.trans EA35
  clear X32
  replace HA17 := HA17.ext EA35
  replace o23 := o23.ext EA35
  clear EA35
  obtain ⟨c0, c1, -, -⟩ := HA34
  obtain ⟨d0, d1, -, -⟩ := HA17
  go_wp2_with fail
  refine (asB (c := true) (by simp) (eqRatio_c _ _ _ _ _)).mono ?_
  rintro e W40 ⟨rfl, E39⟩
  clear c0 c1 d0 d1
  have z41 := E39.size
  have X42 := X38.trans E39
  clear X38
  replace o23 := o23.ext E39
  clear E39
  go_wp2_with fail
  refine (toM_c _ _ _ _ (h0.mono X42) hl0 hr0.out).mono ?_
  rintro e W45 ⟨p46, c47, rfl, o44, E43⟩
  replace o44 := HasM.of o44
  have z48 := E43.size
  have X49 := X42.trans E43
  clear X42
  replace o23 := o23.ext E43
  clear E43
  go_wp2_with fail
  refine (asB (c := true) (by simp) (eqM_c _ _ _ _ _ _ _ o23.mat o44.mat)).mono ?_
  rintro e W51 ⟨rfl, q50⟩
  replace q50 := q50.ext
  have z52 := q50.size
  have X53 := X49.trans q50
  clear X49
  replace o23 := o23.ext q50
  replace o44 := o44.ext q50
  clear q50
  clear o44
  go_wp2
  go_ret
  exact ⟨rfl, X53⟩

end Go.Proofs.Ytljchmkoafahgaa
