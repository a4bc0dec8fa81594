/- The walks of laws over matrices made out of numbers. The arguments fit int64. -/
import Derived.Test.YtfndlmacekmnnaaE1
import Derived.Test.YtfndlmacekmnnaaH3
namespace Go.Proofs.Ytfndlmacekmnnaa
set_option linter.unusedVariables false
open Go.RowKit

set_option maxHeartbeats 2000000 in
theorem FnExactBottomMatrix_walk {w : World} (a0 : Int) (ha0 : -9223372036854775808 ≤ a0 ∧ a0 ≤ 9223372036854775807) (a1 : Int) (ha1 : -9223372036854775808 ≤ a1 ∧ a1 ≤ 9223372036854775807) :
    Calls Try.prog 13 #[.int .i64 a0, .int .i64 a1] w fun e w' => e = .returned (.bool true) ∧ Ext w w' := by
  have hV : tot (botV a0 a1).1 ≤ 1000000 := botV_tot _ _
  have X0 := Ext.refl w
  go_enter Try.func13, Try.ntmps13
  go_wp2_with fail
  refine (specBottom_c _ _ _).mono ?_
  rintro e W1 ⟨p4, c5, rfl, o3, E2⟩
  replace o3 := HasM.of o3
  have z6 := E2.size
  have X7 := X0.trans E2
  clear X0
  clear E2
  go_wp2_with fail
  refine (implBottom_c _ _ _).mono ?_
  rintro e W8 ⟨p11, c12, rfl, o10, E9⟩
  replace o10 := HasM.of o10
  have z13 := E9.size
  have X14 := X7.trans E9
  clear X7
  replace o3 := o3.ext E9
  clear E9
  go_wp2_with fail
  refine (asB (c := true) (by simp) (eqM_c _ _ _ _ _ _ _ o10.mat o3.mat)).mono ?_
  rintro e W16 ⟨rfl, q15⟩
  replace q15 := q15.ext
  have z17 := q15.size
  have X18 := X14.trans q15
  clear X14
  replace o3 := o3.ext q15
  replace o10 := o10.ext q15
  clear q15
  go_wp2_with fail
  refine (markMH_c _ _ _ _ _ _ _ o10 (by omega) (by omega)).mono ?_
  rintro e W19 ⟨rfl, o21, C20⟩
  clear o10
  have z22 := Nat.le_of_eq C20.size.symm
  have X23 := X18.chgT C20 (by omega)
  clear X18
  replace o3 := o3.chg C20 (by omega)
  clear C20
  go_wp2_with fail
  refine (heldM_c _ _ _ _ _ o21.mat (by omega) (by omega)).mono ?_
  rintro e W24 ⟨rfl, q25⟩
  replace q25 := q25.ext
  have z26 := q25.size
  have X27 := X23.trans q25
  clear X23
  replace o3 := o3.ext q25
  replace o21 := o21.ext q25
  clear q25
  go_wp2_with fail
  refine (implBottom_c _ _ _).mono ?_
  rintro e W28 ⟨p31, c32, rfl, o30, E29⟩
  replace o30 := HasM.of o30
  have z33 := E29.size
  have X34 := X27.trans E29
  clear X27
  replace o3 := o3.ext E29
  replace o21 := o21.ext E29
  clear E29
  go_wp2_with fail
  refine (asB (c := true) (by simp) (eqM_c _ _ _ _ _ _ _ o30.mat o3.mat)).mono ?_
  rintro e W36 ⟨rfl, q35⟩
  replace q35 := q35.ext
  have z37 := q35.size
  have X38 := X34.trans q35
  clear X34
  replace o3 := o3.ext q35
  replace o21 := o21.ext q35
  replace o30 := o30.ext q35
  clear q35
  clear o30
  clear o3
  go_wp2_with fail
  refine (heldM_c _ _ _ _ _ o21.mat (by omega) (by omega)).mono ?_
  rintro e W39 ⟨rfl, q40⟩
  replace q40 := q40.ext
  have z41 := q40.size
  have X42 := X38.trans q40
  clear X38
  replace o21 := o21.ext q40
  clear q40
  clear o21
  go_wp2
  go_ret
  exact ⟨rfl, X42⟩

end Go.Proofs.Ytfndlmacekmnnaa
