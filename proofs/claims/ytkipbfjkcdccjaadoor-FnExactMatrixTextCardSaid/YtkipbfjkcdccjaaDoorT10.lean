/- The walk of the law over the texts of matrices. The arguments fit int64. -/
import Derived.Test.YtkipbfjkcdccjaaDoorT9
import Derived.Test.YtkipbfjkcdccjaaDoorGB
namespace Go.Proofs.YtkipbfjkcdccjaaDoor
set_option linter.unusedVariables false
open Go.RowKit

set_option maxHeartbeats 2000000 in
theorem FnExactMatrixText_walk (a0 : Option Addr) (cap0 : Nat) (xs0 : List (List Int)) {w : World} (h0 : MatAt w a0 xs0) (hb0 : MBd xs0) (ht : Tb w) :
    Calls Tryd.prog 5 #[.slice a0 xs0.length cap0] w fun e w' => e = .returned (.bool true) ∧ Ext w w' := by
  have HT := Lib.hid ht
  clear ht
  have X0 := Ext.refl w
  by_cases hs0 : (1048576 - xs0.length - tot xs0 : Int) < 0
  · go_enter Tryd.func5, Tryd.ntmps5
    go_wp2_with fail
    refine (szM_c _ _ _ _ _ (h0.mono X0) (by omega) (by omega)).mono ?_
    rintro e w' ⟨rfl, hq⟩
    rw [if_pos hs0]
    go_wp2
    go_ret
    exact ⟨rfl, X0.qt hq⟩
  have hnn0 : 0 ≤ (1048576 - xs0.length - tot xs0 : Int) := by omega
  have hl0 : xs0.length ≤ 1048576 := by omega
  have hr0 : ∀ i, i < xs0.length → (row xs0 i).length ≤ 1048576 := fun i hi => by have := len_le_tot xs0 i hi; omega
  replace hr0 := Lib.hid hr0
  clear hs0
  go_enter Tryd.func5, Tryd.ntmps5
  go_wp2_with fail
  refine (szM_c _ _ _ _ _ (h0.mono X0) (by omega) (by omega)).mono ?_
  rintro e W2 ⟨rfl, q1⟩
  rw [if_neg (Int.not_lt.2 hnn0)]
  have X4 := X0.trans q1.ext
  clear X0 q1
  go_wp2_with fail
  refine (toM_c _ _ _ _ (h0.mono X4) hl0 hr0.out).mono ?_
  rintro e W7 ⟨p8, c9, rfl, o6, E5⟩
  have X11 := X4.trans E5
  clear X4 E5
  go_wp2_with fail
  refine (specMatrixText_c _ _ _ _ o6.mat).mono ?_
  rintro e W12 ⟨rfl, E13⟩
  have X15 := X11.trans E13
  clear X11 E13 o6
  go_wp2_with fail
  refine (toM_c _ _ _ _ (h0.mono X15) hl0 hr0.out).mono ?_
  rintro e W24 ⟨p25, c26, rfl, o23, E22⟩
  have X28 := X15.trans E22
  clear X15 E22
  go_wp2_with fail
  refine (implMatrixText_c _ _ _ _ o23.mat (HT.out.ext X28)).mono ?_
  rintro e W29 ⟨rfl, E30⟩
  have X32 := X28.trans E30
  replace o23 := o23.ext E30
  clear X28 E30
  go_wp2_with fail
  refine (toM_c _ _ _ _ (h0.mono X32) hl0 hr0.out).mono ?_
  rintro e W45 ⟨p46, c47, rfl, o44, E43⟩
  have X49 := X32.trans E43
  replace o23 := o23.ext E43
  clear X32 E43
  go_wp2_with fail
  refine (asB (c := true) (by simp) (eqM_c _ _ _ _ _ _ _ o23.mat o44.mat)).mono ?_
  rintro e W50 ⟨rfl, q⟩
  go_wp2
  go_ret
  exact ⟨rfl, X49.qt q⟩
end Go.Proofs.YtkipbfjkcdccjaaDoor
