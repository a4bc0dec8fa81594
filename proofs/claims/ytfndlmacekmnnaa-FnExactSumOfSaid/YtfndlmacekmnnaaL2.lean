/- The walks of the laws over lists of integers. -/
import Derived.Test.YtfndlmacekmnnaaM1
import Derived.Test.YtfndlmacekmnnaaH2
namespace Go.Proofs.Ytfndlmacekmnnaa
set_option linter.unusedVariables false
open Go.RowKit

set_option maxHeartbeats 400000 in
theorem FnExactSumOf_walk (a : Option Addr) (cap : Nat) (xs : List Int) {w : World} (h : IntsAt w a xs) (hb : IBd xs) :
    Calls Try.prog 11 #[.slice a xs.length cap] w fun e w' => e = .returned (.bool true) ∧ Ext w w' := by
  have hlen := h.len
  by_cases h0 : 1048576 < xs.length
  · go_enter Try.func11, Try.ntmps11
    go_wp2
    go_ret
    exact ⟨rfl, Ext.refl _⟩
  · have hl : xs.length ≤ 1048576 := by omega
    go_enter Try.func11, Try.ntmps11
    go_wp2_with fail
    refine (toI_c _ _ _ _ h hl).mono ?_
    rintro e w1 ⟨a1, c1, rfl, o1, e1⟩
    go_wp2_with fail
    refine (sSumOf_c _ _ _ _ o1.ints).mono ?_
    rintro e w1 ⟨rfl, rfl⟩
    go_wp2_with fail
    refine (toI_c _ _ _ _ (h.mono e1) hl).mono ?_
    rintro e w2 ⟨a2, c2, rfl, o2, e2⟩
    go_wp2_with fail
    refine (implSumOf_c _ _ _ _ o2.ints).mono ?_
    rintro e w2 ⟨rfl, rfl⟩
    go_wp2_with fail
    refine (toI_c _ _ _ _ ((h.mono e1).mono e2) hl).mono ?_
    rintro e w3 ⟨a3, c3, rfl, o3, e3⟩
    go_wp2_with fail
    refine (asB (c := true) (by simp) (eqI_c _ _ _ _ _ _ _ (o2.ints.mono e3) o3.ints)).mono ?_
    rintro e w4 ⟨rfl, hq⟩
    go_wp2
    go_ret
    exact ⟨rfl, ((e1.trans e2).trans e3).qt hq⟩

end Go.Proofs.Ytfndlmacekmnnaa
