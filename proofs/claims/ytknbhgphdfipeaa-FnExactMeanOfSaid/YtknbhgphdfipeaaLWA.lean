/- The walk of the law over means of cycles. The arguments fit int64. -/
import Derived.Test.YtknbhgphdfipeaaE10
import Derived.Test.YtknbhgphdfipeaaH3
namespace Go.Proofs.Ytknbhgphdfipeaa
set_option linter.unusedVariables false
open Go.RowKit

set_option maxHeartbeats 2000000 in
theorem FnExactMeanOf_walk {w : World} (a0 : Option Addr) (cap0 : Nat) (xs0 : List (List Int)) (h0 : MatAt w a0 xs0) (hb0 : MBd xs0) (a1 : Option Addr) (cap1 : Nat) (xs1 : List Int) (h1 : IntsAt w a1 xs1) (hb1 : IBd xs1) :
    Calls Try.prog 7 #[.slice a0 xs0.length cap0, .slice a1 xs1.length cap1] w fun e w' => e = .returned (.bool true) ∧ Ext w w' := by
  have hlen1 := h1.len
  by_cases hs1 : 1048576 < xs1.length
  · go_enter Try.func7, Try.ntmps7
    go_wp2
    go_ret
    exact ⟨rfl, Ext.refl _⟩
  have hl1 : xs1.length ≤ 1048576 := by omega
  have X0 := Ext.refl w
  by_cases hs0 : (1048576 - xs0.length - tot xs0 : Int) < 0
  · go_enter Try.func7, Try.ntmps7
    go_wp2_with fail
    refine (szM_c _ _ _ _ _ (h0.mono X0) (by omega) (by omega)).mono ?_
    rintro e w' ⟨rfl, hq⟩
    rw [if_pos hs0]
    go_wp2
    go_ret
    exact ⟨rfl, X0.qt hq⟩
  have hnn0 : 0 ≤ (1048576 - xs0.length - tot xs0 : Int) := by omega
  have hl0 : xs0.length ≤ 1048576 := by omega
  have hr0 : ∀ i, i < xs0.length → (row xs0 i).length ≤ 1048576 := fun i hi => by have := len_le_tot xs0 i hi; omega
  have ht0 : tot xs0 ≤ 1048576 := by omega
  replace hr0 := Lib.hid hr0
  clear hs0
  go_enter Try.func7, Try.ntmps7
  go_wp2_with fail
  refine (szM_c _ _ _ _ _ (h0.mono X0) (by omega) (by omega)).mono ?_
  rintro e W2 ⟨rfl, q1⟩
  rw [if_neg (Int.not_lt.2 hnn0)]
  replace q1 := q1.ext
  have z3 := q1.size
  have X4 := X0.trans q1
  clear X0
  clear q1
  go_wp2_with fail
  refine (toM_c _ _ _ _ (h0.mono X4) hl0 hr0.out).mono ?_
  rintro e W7 ⟨p8, c9, rfl, o6, E5⟩
  replace o6 := HasM.of o6
  have z10 := E5.size
  have X11 := X4.trans E5
  clear X4
  clear E5
  go_wp2_with fail
  refine (toI_c _ _ _ _ (h1.mono X11) hl1).mono ?_
  rintro e W14 ⟨p15, c16, rfl, o13, E12⟩
  replace o13 := HasI.of o13
  have z17 := E12.size
  have X18 := X11.trans E12
  clear X11
  replace o6 := o6.ext E12
  clear E12
  go_wp2_with fail
  refine (specMean_c _ _ _ _ _ _ _ o6.mat o13.2.1 hl1).mono ?_
  rintro e W19 ⟨rfl, E20⟩
  have z21 := E20.size
  have X22 := X18.trans E20
  clear X18
  replace o6 := o6.ext E20
  replace o13 := o13.ext E20
  clear E20
  generalize hm : (meanV xs0 xs1) = m
  have HM := Lib.hid hm
  clear hm
  obtain ⟨WA23, hWA23, HA24, q26, EA25⟩ := alloc2_facts W19 (.int .i64 m.1.1) (.int .i64 m.1.2) 29
  clear q26
  have z27 := EA25.size
  have X28 := X22.trans EA25
  clear X22
  replace o6 := o6.ext EA25
  replace o13 := o13.ext EA25
  clear EA25
  clear o6
  clear o13
  go_wp2_with fail
  refine (toM_c _ _ _ _ (h0.mono X28) hl0 hr0.out).mono ?_
  rintro e W31 ⟨p32, c33, rfl, o30, E29⟩
  replace o30 := HasM.of o30
  have z34 := E29.size
  have X35 := X28.trans E29
  clear X28
  replace HA24 := HA24.ext E29
  clear E29
  go_wp2_with fail
  refine (toI_c _ _ _ _ (h1.mono X35) hl1).mono ?_
  rintro e W38 ⟨p39, c40, rfl, o37, E36⟩
  replace o37 := HasI.of o37
  have z41 := E36.size
  have X42 := X35.trans E36
  clear X35
  replace HA24 := HA24.ext E36
  replace o30 := o30.ext E36
  clear E36
  go_wp2_with fail
  refine (implMean_c _ _ _ _ _ _ _ o30.mat o37.2.1 hl1).mono ?_
  rintro e W43 ⟨rfl, E44⟩
  have z45 := E44.size
  have X46 := X42.trans E44
  clear X42
  replace HA24 := HA24.ext E44
  replace o30 := o30.ext E44
  replace o37 := o37.ext E44
  clear E44
  rw [HM.out]
  obtain ⟨WA47, hWA47, HA48, q50, EA49⟩ := alloc2_facts W43 (.int .i64 m.1.1) (.int .i64 m.1.2) 29
  clear q50
  have z51 := EA49.size
  have X52 := X46.trans EA49
  clear X46
  replace HA24 := HA24.ext EA49
  replace o30 := o30.ext EA49
  replace o37 := o37.ext EA49
  clear EA49
  obtain ⟨c0, c1, -, -⟩ := HA48
  obtain ⟨d0, d1, -, -⟩ := HA24
  go_wp2_with fail
  refine (asB (c := true) (by simp) (eqRatio_c _ _ _ _ _)).mono ?_
  rintro e W54 ⟨rfl, E53⟩
  clear c0 c1 d0 d1
  have z55 := E53.size
  have X56 := X52.trans E53
  clear X52
  replace o30 := o30.ext E53
  replace o37 := o37.ext E53
  clear E53
  go_wp2_with fail
  refine (toM_c _ _ _ _ (h0.mono X56) hl0 hr0.out).mono ?_
  rintro e W59 ⟨p60, c61, rfl, o58, E57⟩
  replace o58 := HasM.of o58
  have z62 := E57.size
  have X63 := X56.trans E57
  clear X56
  replace o30 := o30.ext E57
  replace o37 := o37.ext E57
  clear E57
  go_wp2_with fail
  refine (asB (c := true) (by simp) (eqM_c _ _ _ _ _ _ _ o30.mat o58.mat)).mono ?_
  rintro e W65 ⟨rfl, q64⟩
  replace q64 := q64.ext
  have z66 := q64.size
  have X67 := X63.trans q64
  clear X63
  replace o30 := o30.ext q64
  replace o37 := o37.ext q64
  replace o58 := o58.ext q64
  clear q64
  clear o58
  go_wp2_with fail
  refine (toI_c _ _ _ _ (h1.mono X67) hl1).mono ?_
  rintro e W70 ⟨p71, c72, rfl, o69, E68⟩
  replace o69 := HasI.of o69
  have z73 := E68.size
  have X74 := X67.trans E68
  clear X67
  replace o30 := o30.ext E68
  replace o37 := o37.ext E68
  clear E68
  go_wp2_with fail
  refine (asB (c := true) (by simp) (eqI_c _ _ _ _ _ _ _ o37.ints o69.ints)).mono ?_
  rintro e W76 ⟨rfl, q75⟩
  replace q75 := q75.ext
  have z77 := q75.size
  have X78 := X74.trans q75
  clear X74
  replace o30 := o30.ext q75
  replace o37 := o37.ext q75
  replace o69 := o69.ext q75
  clear q75
  clear o69
  go_wp2
  go_ret
  exact ⟨rfl, X78⟩

end Go.Proofs.Ytknbhgphdfipeaa
