/- Contracts of the functions over ratios, and of the exported functions over numbers. Conditions: the bounds that each states. -/
import Derived.Test.YtljchmkoafahgaaS1
namespace Go.Proofs.Ytljchmkoafahgaa
set_option linter.unusedVariables false
open Go.RowKit

theorem isNaN_c (n : Int) (w : World) :
    Calls Try.prog 167 #[.int .i64 n] w fun e w' => e = .returned (.bool false) ∧ w = w' := by
  go_enter Try.func167, Try.ntmps167
  go_wp2
  go_ret
  exact ⟨ret_bool (by simp), rfl⟩

theorem cmpCompare_c (x y : Int) (w : World) :
    Calls Try.prog 155 #[.int .i64 x, .int .i64 y] w fun e w' => e = .returned (.int .i64 (cmpI x y)) ∧ w = w' := by
  go_enter Try.func155, Try.ntmps155
  go_wp2_with (go_at_call 167; refine (isNaN_c _ _).mono ?_; rintro e w' ⟨rfl, rfl⟩)
  all_goals go_ret
  all_goals exact ⟨ret_int (by simp [cmpI]; omega), rfl⟩

theorem compareRatios_c (a b c d : Int) (w : World) (h1 : -1000000000 ≤ a ∧ a ≤ 1000000000) (h2 : -1000000000 ≤ b ∧ b ≤ 1000000000)
    (h3 : -1000000000 ≤ c ∧ c ≤ 1000000000) (h4 : -1000000000 ≤ d ∧ d ≤ 1000000000) :
    Calls Try.prog 120 #[.agg #[.int .i64 a, .int .i64 b], .agg #[.int .i64 c, .int .i64 d]] w fun e w' => e = .returned (.int .i64 (cmpR (a, b) (c, d))) ∧ Ext w w' := by
  have m1 := mul_bd h1 h4
  have m2 := mul_bd h3 h2
  unfold cmpR
  go_enter Try.func120, Try.ntmps120
  go_wp2_with (go_at_call 155; refine (cmpCompare_c _ _ _).mono ?_; rintro e w' ⟨rfl, rfl⟩)
  go_ret
  exact ⟨rfl, ((Ext.refl w).alloc _).alloc _⟩

theorem l01Compare_c (a b c d : Int) (w : World) (h1 : -1000000000 ≤ a ∧ a ≤ 1000000000) (h2 : -1000000000 ≤ b ∧ b ≤ 1000000000)
    (h3 : -1000000000 ≤ c ∧ c ≤ 1000000000) (h4 : -1000000000 ≤ d ∧ d ≤ 1000000000) :
    Calls Try.prog 149 #[.agg #[.int .i64 a, .int .i64 b], .agg #[.int .i64 c, .int .i64 d]] w fun e w' => e = .returned (.int .i64 (cmpR (a, b) (c, d))) ∧ Ext w w' := by
  have m1 := mul_bd h1 h4
  have m2 := mul_bd h3 h2
  have w1 : IntKind.i64.wrap (a * d) = a * d := IntWalk.i64_in _ (by omega)
  have w2 : IntKind.i64.wrap (c * b) = c * b := IntWalk.i64_in _ (by omega)
  unfold cmpR
  go_enter Try.func149, Try.ntmps149
  go_wp2_with fail
  go_quiet (fail)
  clear w1 w2 m1 m2
  go_wp2
  all_goals go_ret
  all_goals exact ⟨ret_int (by simp [cmpI]; omega), by repeat (first | exact Ext.refl _ | refine Ext.drewN ?_ _ | refine Ext.drew ?_ | refine Ext.alloc ?_ _)⟩

set_option maxHeartbeats 400000 in
theorem isRatio_c1 (a b : Int) (w : World) (h1 : fin a = false) :
    Calls Try.prog 121 #[.agg #[.int .i64 a, .int .i64 b]] w fun e w' => e = .returned (.bool false) ∧ Ext w w' := by
  obtain ⟨W, hW, ⟨c0, c1, f0, f1⟩, hs, hE⟩ := alloc2_facts w (.int .i64 a) (.int .i64 b) 25
  clear hs f0 f1
  go_enter Try.func121, Try.ntmps121
  go_wp2_with fail
  go_big_quiet ((go_at_call 156; exact quiet_pure (asB h1 (isFinite_c _ _))))
  go_wp2
  go_ret
  exact ⟨rfl, hE.drewN _⟩
set_option maxHeartbeats 400000 in
theorem isRatio_c2 (a b : Int) (w : World) (h1 : fin a = true) (h2 : inR b 1 1000000 = false) :
    Calls Try.prog 121 #[.agg #[.int .i64 a, .int .i64 b]] w fun e w' => e = .returned (.bool false) ∧ Ext w w' := by
  obtain ⟨W, hW, ⟨c0, c1, f0, f1⟩, hs, hE⟩ := alloc2_facts w (.int .i64 a) (.int .i64 b) 25
  clear hs f0 f1
  go_enter Try.func121, Try.ntmps121
  go_wp2_with fail
  go_big_quiet ((first | (go_at_call 156; exact quiet_pure (asB h1 (isFinite_c _ _))) | (go_at_call 107; exact quiet_pure (asB h2 (within_c _ _ _ _)))))
  go_wp2
  go_ret
  exact ⟨rfl, hE.drewN _⟩
set_option maxHeartbeats 400000 in
theorem isRatio_c3 (a b : Int) (w : World) (h1 : fin a = true) (h2 : inR b 1 1000000 = true) :
    Calls Try.prog 121 #[.agg #[.int .i64 a, .int .i64 b]] w fun e w' => e = .returned (.bool (gcdI a b == 1)) ∧ Ext w w' := by
  have b1 := fin_iff.1 h1
  have b2 := inR_iff.1 h2
  have b3 := absI_bd a 1000000 (by omega)
  have e := gcdI_abs a b
  have HE := Lib.hid e
  clear e
  obtain ⟨W, hW, ⟨c0, c1, f0, f1⟩, hs, hE⟩ := alloc2_facts w (.int .i64 a) (.int .i64 b) 25
  clear hs f0 f1
  go_enter Try.func121, Try.ntmps121
  go_wp2_with fail
  go_big_quiet ((first | (go_at_call 156; exact quiet_pure (asB h1 (isFinite_c _ _))) | (go_at_call 107; exact quiet_pure (asB h2 (within_c _ _ _ _))) | (go_at_call 123; exact quiet_pure (absOf_c _ _ (by omega))) | (go_at_call 93; exact quiet_call (divisorOf_c _ _ _ (by omega) (by omega)))))
  go_wp2
  go_ret
  exact ⟨ret_bool (by rw [← HE.out]), hE.drewN _⟩
theorem isRatio_c (a b : Int) (w : World) :
    Calls Try.prog 121 #[.agg #[.int .i64 a, .int .i64 b]] w fun e w' => e = .returned (.bool (isRat (a, b))) ∧ Ext w w' := by
  unfold isRat
  cases h1 : fin a
  · exact isRatio_c1 a b w h1
  · cases h2 : inR b 1 1000000
    · exact isRatio_c2 a b w h1 h2
    · exact isRatio_c3 a b w h1 h2

theorem sIsRatio_c (a b : Int) (w : World) :
    Calls Try.prog 119 #[.agg #[.int .i64 a, .int .i64 b]] w fun e w' => e = .returned (.bool (isRat (a, b))) ∧ Ext w w' := by
  unfold isRat
  cases h1 : fin a
  · go_enter Try.func119, Try.ntmps119
    go_wp2_with (go_at_call 154; refine (l01Finite_c _ _).mono ?_; rintro e w' ⟨rfl, rfl⟩)
    go_ret
    exact ⟨ret_bool (by simp), ((Ext.refl w).alloc _)⟩
  · cases h2 : inR b 1 1000000
    · go_enter Try.func119, Try.ntmps119
      go_wp2_with (first | (go_at_call 154; refine (l01Finite_c _ _).mono ?_; rintro e w' ⟨rfl, rfl⟩) | (go_at_call 124; refine (l01In_c _ _ _ _).mono ?_; rintro e w' ⟨rfl, rfl⟩))
      go_ret
      exact ⟨ret_bool (by simp), ((Ext.refl w).alloc _)⟩
    · have b1 := fin_iff.1 h1
      have b2 := inR_iff.1 h2
      go_enter Try.func119, Try.ntmps119
      go_wp2_with (first | (go_at_call 154; refine (l01Finite_c _ _).mono ?_; rintro e w' ⟨rfl, rfl⟩) | (go_at_call 124; refine (l01In_c _ _ _ _).mono ?_; rintro e w' ⟨rfl, rfl⟩) | (go_at_call 139; refine (l01Divisor_c _ _ _ (by omega) (by omega)).mono ?_; rintro e w' ⟨rfl, hq⟩))
      go_ret
      exact ⟨ret_bool (by simp), ((Ext.refl w).alloc _).qt hq⟩

theorem eqRatio_c (a b c d : Int) (w : World) :
    Calls Try.prog 19 #[.agg #[.int .i64 a, .int .i64 b], .agg #[.int .i64 c, .int .i64 d]] w fun e w' => e = .returned (.bool (decide ((a, b) = (c, d)))) ∧ Ext w w' := by
  by_cases h1 : a = c
  · subst h1
    by_cases h2 : b = d
    · subst h2
      go_enter Try.func19, Try.ntmps19
      go_wp2
      go_ret
      exact ⟨ret_bool (by simp), ((Ext.refl w).alloc _).alloc _⟩
    · have h2' : (b != d) = true := by simpa using h2
      have H2 := Lib.hid h2
      clear h2
      go_enter Try.func19, Try.ntmps19
      go_wp2
      go_ret
      exact ⟨ret_bool (by have := H2.out; simp [this]), ((Ext.refl w).alloc _).alloc _⟩
  · have h1' : (a != c) = true := by simpa using h1
    have H1 := Lib.hid h1
    clear h1
    go_enter Try.func19, Try.ntmps19
    go_wp2
    go_ret
    exact ⟨ret_bool (by have := H1.out; simp [this]), ((Ext.refl w).alloc _).alloc _⟩

end Go.Proofs.Ytljchmkoafahgaa
