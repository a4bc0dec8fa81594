/- Contracts of the functions over ratios, and of the exported functions over numbers. Conditions: the bounds that each states. -/
import Derived.Test.YtcgfhmkcopigbaaS1
namespace Go.Proofs.Ytcgfhmkcopigbaa
set_option linter.unusedVariables false
open Go.RowKit

theorem isNaN_c (n : Int) (w : World) :
    Calls Try.prog 112 #[.int .i64 n] w fun e w' => e = .returned (.bool false) ∧ w = w' := by
  go_enter Try.func112, Try.ntmps112
  go_wp2
  go_ret
  exact ⟨ret_bool (by simp), rfl⟩

theorem cmpCompare_c (x y : Int) (w : World) :
    Calls Try.prog 106 #[.int .i64 x, .int .i64 y] w fun e w' => e = .returned (.int .i64 (cmpI x y)) ∧ w = w' := by
  go_enter Try.func106, Try.ntmps106
  go_wp2_with (go_at_call 112; refine (isNaN_c _ _).mono ?_; rintro e w' ⟨rfl, rfl⟩)
  all_goals go_ret
  all_goals exact ⟨ret_int (by simp [cmpI]; omega), rfl⟩

theorem compareRatios_c (a b c d : Int) (w : World) (h1 : -1000000000 ≤ a ∧ a ≤ 1000000000) (h2 : -1000000000 ≤ b ∧ b ≤ 1000000000)
    (h3 : -1000000000 ≤ c ∧ c ≤ 1000000000) (h4 : -1000000000 ≤ d ∧ d ≤ 1000000000) :
    Calls Try.prog 85 #[.agg #[.int .i64 a, .int .i64 b], .agg #[.int .i64 c, .int .i64 d]] w fun e w' => e = .returned (.int .i64 (cmpR (a, b) (c, d))) ∧ Ext w w' := by
  have m1 := mul_bd h1 h4
  have m2 := mul_bd h3 h2
  unfold cmpR
  go_enter Try.func85, Try.ntmps85
  go_wp2_with (go_at_call 106; refine (cmpCompare_c _ _ _).mono ?_; rintro e w' ⟨rfl, rfl⟩)
  go_ret
  exact ⟨rfl, ((Ext.refl w).alloc _).alloc _⟩

theorem l01Compare_c (a b c d : Int) (w : World) (h1 : -1000000000 ≤ a ∧ a ≤ 1000000000) (h2 : -1000000000 ≤ b ∧ b ≤ 1000000000)
    (h3 : -1000000000 ≤ c ∧ c ≤ 1000000000) (h4 : -1000000000 ≤ d ∧ d ≤ 1000000000) :
    Calls Try.prog 86 #[.agg #[.int .i64 a, .int .i64 b], .agg #[.int .i64 c, .int .i64 d]] w fun e w' => e = .returned (.int .i64 (cmpR (a, b) (c, d))) ∧ Ext w w' := by
  have m1 := mul_bd h1 h4
  have m2 := mul_bd h3 h2
  have w1 : IntKind.i64.wrap (a * d) = a * d := IntWalk.i64_in _ (by omega)
  have w2 : IntKind.i64.wrap (c * b) = c * b := IntWalk.i64_in _ (by omega)
  unfold cmpR
  go_enter Try.func86, Try.ntmps86
  go_wp2_with fail
  go_quiet (fail)
  clear w1 w2 m1 m2
  go_wp2
  all_goals go_ret
  all_goals exact ⟨ret_int (by simp [cmpI]; omega), by repeat (first | exact Ext.refl _ | refine Ext.drewN ?_ _ | refine Ext.drew ?_ | refine Ext.alloc ?_ _)⟩

set_option maxHeartbeats 400000 in
theorem isRatio_c1 (a b : Int) (w : World) (h1 : fin a = false) :
    Calls Try.prog 42 #[.agg #[.int .i64 a, .int .i64 b]] w fun e w' => e = .returned (.bool false) ∧ Ext w w' := by
  obtain ⟨W, hW, ⟨c0, c1, f0, f1⟩, hs, hE⟩ := alloc2_facts w (.int .i64 a) (.int .i64 b) 42
  clear hs f0 f1
  go_enter Try.func42, Try.ntmps42
  go_wp2_with fail
  go_big_quiet ((go_at_call 74; exact quiet_pure (asB h1 (isFinite_c _ _))))
  go_wp2
  go_ret
  exact ⟨rfl, hE.drewN _⟩
set_option maxHeartbeats 400000 in
theorem isRatio_c2 (a b : Int) (w : World) (h1 : fin a = true) (h2 : inR b 1 1000000 = false) :
    Calls Try.prog 42 #[.agg #[.int .i64 a, .int .i64 b]] w fun e w' => e = .returned (.bool false) ∧ Ext w w' := by
  obtain ⟨W, hW, ⟨c0, c1, f0, f1⟩, hs, hE⟩ := alloc2_facts w (.int .i64 a) (.int .i64 b) 42
  clear hs f0 f1
  go_enter Try.func42, Try.ntmps42
  go_wp2_with fail
  go_big_quiet ((first | (go_at_call 74; exact quiet_pure (asB h1 (isFinite_c _ _))) | (go_at_call 59; exact quiet_pure (asB h2 (within_c _ _ _ _)))))
  go_wp2
  go_ret
  exact ⟨rfl, hE.drewN _⟩
set_option maxHeartbeats 400000 in
theorem isRatio_c3 (a b : Int) (w : World) (h1 : fin a = true) (h2 : inR b 1 1000000 = true) :
    Calls Try.prog 42 #[.agg #[.int .i64 a, .int .i64 b]] w fun e w' => e = .returned (.bool (gcdI a b == 1)) ∧ Ext w w' := by
  have b1 := fin_iff.1 h1
  have b2 := inR_iff.1 h2
  have b3 := absI_bd a 1000000 (by omega)
  have e := gcdI_abs a b
  have HE := Lib.hid e
  clear e
  obtain ⟨W, hW, ⟨c0, c1, f0, f1⟩, hs, hE⟩ := alloc2_facts w (.int .i64 a) (.int .i64 b) 42
  clear hs f0 f1
  go_enter Try.func42, Try.ntmps42
  go_wp2_with fail
  go_big_quiet ((first | (go_at_call 74; exact quiet_pure (asB h1 (isFinite_c _ _))) | (go_at_call 59; exact quiet_pure (asB h2 (within_c _ _ _ _))) | (go_at_call 88; exact quiet_pure (absOf_c _ _ (by omega))) | (go_at_call 87; exact quiet_call (divisorOf_c _ _ _ (by omega) (by omega)))))
  go_wp2
  go_ret
  exact ⟨ret_bool (by rw [← HE.out]), hE.drewN _⟩
theorem isRatio_c (a b : Int) (w : World) :
    Calls Try.prog 42 #[.agg #[.int .i64 a, .int .i64 b]] w fun e w' => e = .returned (.bool (isRat (a, b))) ∧ Ext w w' := by
  unfold isRat
  cases h1 : fin a
  · exact isRatio_c1 a b w h1
  · cases h2 : inR b 1 1000000
    · exact isRatio_c2 a b w h1 h2
    · exact isRatio_c3 a b w h1 h2

theorem sIsRatio_c (a b : Int) (w : World) :
    Calls Try.prog 43 #[.agg #[.int .i64 a, .int .i64 b]] w fun e w' => e = .returned (.bool (isRat (a, b))) ∧ Ext w w' := by
  unfold isRat
  cases h1 : fin a
  · go_enter Try.func43, Try.ntmps43
    go_wp2_with (go_at_call 75; refine (l01Finite_c _ _).mono ?_; rintro e w' ⟨rfl, rfl⟩)
    go_ret
    exact ⟨ret_bool (by simp), ((Ext.refl w).alloc _)⟩
  · cases h2 : inR b 1 1000000
    · go_enter Try.func43, Try.ntmps43
      go_wp2_with (first | (go_at_call 75; refine (l01Finite_c _ _).mono ?_; rintro e w' ⟨rfl, rfl⟩) | (go_at_call 57; refine (l01In_c _ _ _ _).mono ?_; rintro e w' ⟨rfl, rfl⟩))
      go_ret
      exact ⟨ret_bool (by simp), ((Ext.refl w).alloc _)⟩
    · have b1 := fin_iff.1 h1
      have b2 := inR_iff.1 h2
      go_enter Try.func43, Try.ntmps43
      go_wp2_with (first | (go_at_call 75; refine (l01Finite_c _ _).mono ?_; rintro e w' ⟨rfl, rfl⟩) | (go_at_call 57; refine (l01In_c _ _ _ _).mono ?_; rintro e w' ⟨rfl, rfl⟩) | (go_at_call 89; refine (l01Divisor_c _ _ _ (by omega) (by omega)).mono ?_; rintro e w' ⟨rfl, hq⟩))
      go_ret
      exact ⟨ret_bool (by simp), ((Ext.refl w).alloc _).qt hq⟩

theorem quotientOf_c (a b : Int) (w : World) :
    Calls Try.prog 15 #[.int .i64 a, .int .i64 b] w fun e w' => e = .returned (.tuple #[.int .i64 (quotV a b).1, .int .i64 (quotV a b).2]) ∧ w = w' := by
  cases h1 : isVal a
  · have e : quotV a b = (0, 1) := by simp [quotV, h1]
    rw [e]
    clear e
    go_enter Try.func15, Try.ntmps15
    go_wp2_with (go_at_call 32; refine (asB h1 (isValue_c _ _)).mono ?_; rintro e w' ⟨rfl, rfl⟩)
    go_ret2
    exact ⟨rfl, rfl⟩
  · cases h2 : isVal b
    · have e : quotV a b = (0, 1) := by simp [quotV, h2]
      rw [e]
      clear e
      go_enter Try.func15, Try.ntmps15
      go_wp2_with (go_at_call 32; refine (isValue_c _ _).mono ?_; rintro e w' ⟨rfl, rfl⟩)
      go_ret2
      exact ⟨rfl, rfl⟩
    · have b1 := isVal_bd h1
      have b2 := isVal_bd h2
      have e := rfl (a := quotV a b)
      conv at e => rhs; simp only [quotV, h1, h2, Bool.and_self, if_true]
      have HE := Lib.hid e
      clear e
      go_enter Try.func15, Try.ntmps15
      go_wp2_with (first | (go_at_call 32; refine (isValue_c _ _).mono ?_; rintro e w' ⟨rfl, rfl⟩) | (go_at_call 54; refine (checkedValue_c _ _).mono ?_; rintro e w' ⟨rfl, rfl⟩))
      all_goals go_ret2
      all_goals exact ⟨ret_pair (by rw [HE.out] <;> simp_all), rfl⟩

theorem sQuotientOf_c (a b : Int) (w : World) :
    Calls Try.prog 16 #[.int .i64 a, .int .i64 b] w fun e w' => e = .returned (.tuple #[.int .i64 (quotV a b).1, .int .i64 (quotV a b).2]) ∧ w = w' := by
  cases h1 : isVal a
  · have e : quotV a b = (0, 1) := by simp [quotV, h1]
    rw [e]
    clear e
    go_enter Try.func16, Try.ntmps16
    go_wp2_with (go_at_call 33; refine (asB h1 (sIsValue_c _ _)).mono ?_; rintro e w' ⟨rfl, rfl⟩)
    go_ret2
    exact ⟨rfl, rfl⟩
  · cases h2 : isVal b
    · have e : quotV a b = (0, 1) := by simp [quotV, h2]
      rw [e]
      clear e
      go_enter Try.func16, Try.ntmps16
      go_wp2_with (go_at_call 33; refine (sIsValue_c _ _).mono ?_; rintro e w' ⟨rfl, rfl⟩)
      go_ret2
      exact ⟨rfl, rfl⟩
    · have b1 := isVal_bd h1
      have b2 := isVal_bd h2
      have e := rfl (a := quotV a b)
      conv at e => rhs; simp only [quotV, h1, h2, Bool.and_self, if_true]
      have HE := Lib.hid e
      clear e
      go_enter Try.func16, Try.ntmps16
      go_wp2_with (first | (go_at_call 33; refine (sIsValue_c _ _).mono ?_; rintro e w' ⟨rfl, rfl⟩) | (go_at_call 55; refine (l01Value_c _ _).mono ?_; rintro e w' ⟨rfl, rfl⟩))
      all_goals go_ret2
      all_goals exact ⟨ret_pair (by rw [HE.out] <;> simp_all), rfl⟩

theorem productOf_c (a b : Int) (w : World) :
    Calls Try.prog 17 #[.int .i64 a, .int .i64 b] w fun e w' => e = .returned (.tuple #[.int .i64 (prodV a b).1, .int .i64 (prodV a b).2]) ∧ w = w' := by
  cases h1 : isVal a
  · have e : prodV a b = (0, 1) := by simp [prodV, h1]
    rw [e]
    clear e
    go_enter Try.func17, Try.ntmps17
    go_wp2_with (go_at_call 32; refine (asB h1 (isValue_c _ _)).mono ?_; rintro e w' ⟨rfl, rfl⟩)
    go_ret2
    exact ⟨rfl, rfl⟩
  · cases h2 : isVal b
    · have e : prodV a b = (0, 1) := by simp [prodV, h2]
      rw [e]
      clear e
      go_enter Try.func17, Try.ntmps17
      go_wp2_with (go_at_call 32; refine (isValue_c _ _).mono ?_; rintro e w' ⟨rfl, rfl⟩)
      go_ret2
      exact ⟨rfl, rfl⟩
    · have b1 := isVal_bd h1
      have b2 := isVal_bd h2
      have e := rfl (a := prodV a b)
      conv at e => rhs; simp only [prodV, h1, h2, Bool.and_self, if_true]
      have HE := Lib.hid e
      clear e
      go_enter Try.func17, Try.ntmps17
      go_wp2_with (first | (go_at_call 32; refine (isValue_c _ _).mono ?_; rintro e w' ⟨rfl, rfl⟩) | (go_at_call 54; refine (checkedValue_c _ _).mono ?_; rintro e w' ⟨rfl, rfl⟩) | (go_at_call 56; refine (times_c _ _ _ (by omega) (by omega)).mono ?_; rintro e w' ⟨rfl, rfl⟩))
      all_goals go_ret2
      all_goals exact ⟨ret_pair (by rw [HE.out] <;> simp_all), rfl⟩

theorem sProductOf_c (a b : Int) (w : World) :
    Calls Try.prog 28 #[.int .i64 a, .int .i64 b] w fun e w' => e = .returned (.tuple #[.int .i64 (prodV a b).1, .int .i64 (prodV a b).2]) ∧ w = w' := by
  cases h1 : isVal a
  · have e : prodV a b = (0, 1) := by simp [prodV, h1]
    rw [e]
    clear e
    go_enter Try.func28, Try.ntmps28
    go_wp2_with (go_at_call 33; refine (asB h1 (sIsValue_c _ _)).mono ?_; rintro e w' ⟨rfl, rfl⟩)
    go_ret2
    exact ⟨rfl, rfl⟩
  · cases h2 : isVal b
    · have e : prodV a b = (0, 1) := by simp [prodV, h2]
      rw [e]
      clear e
      go_enter Try.func28, Try.ntmps28
      go_wp2_with (go_at_call 33; refine (sIsValue_c _ _).mono ?_; rintro e w' ⟨rfl, rfl⟩)
      go_ret2
      exact ⟨rfl, rfl⟩
    · have b1 := isVal_bd h1
      have b2 := isVal_bd h2
      have e := rfl (a := prodV a b)
      conv at e => rhs; simp only [prodV, h1, h2, Bool.and_self, if_true]
      have HE := Lib.hid e
      clear e
      go_enter Try.func28, Try.ntmps28
      go_wp2_with (first | (go_at_call 33; refine (sIsValue_c _ _).mono ?_; rintro e w' ⟨rfl, rfl⟩) | (go_at_call 55; refine (l01Value_c _ _).mono ?_; rintro e w' ⟨rfl, rfl⟩) | (go_at_call 70; refine (l01Times_c _ _ _ (by omega) (by omega)).mono ?_; rintro e w' ⟨rfl, rfl⟩))
      all_goals go_ret2
      all_goals exact ⟨ret_pair (by rw [HE.out] <;> simp_all), rfl⟩

set_option maxHeartbeats 400000 in
theorem makeRatio_c (a b : Int) (w : World) :
    Calls Try.prog 37 #[.int .i64 a, .int .i64 b] w fun e w' => e = .returned (.tuple #[.agg #[.int .i64 ((mkRat a b).1).1, .int .i64 ((mkRat a b).1).2], .int .i64 (mkRat a b).2]) ∧ Ext w w' := by
  obtain ⟨W, hW, HB, hs, hE⟩ := alloc2_facts w (.int .i64 0) (.int .i64 0) 42
  have HB' := HB
  obtain ⟨c0, c1, f0, f1⟩ := HB'
  clear hs
  cases h1 : fin a
  · have e : mkRat a b = ((0, 0), 1) := by simp [mkRat, h1]
    rw [e]
    clear e
    go_enter Try.func37, Try.ntmps37
    go_wp2_with (go_at_call 74; refine (asB h1 (isFinite_c _ _)).mono ?_; rintro e w' ⟨rfl, rfl⟩)
    refine bodyPost_ret (v := .tuple #[.agg #[.int .i64 (0), .int .i64 (0)], .int .i64 (1)]) (by simp [results, Try.results37, go_sem, c0, c1]) rfl ⟨rfl, ?_⟩
    repeat (first | exact hE | exact hE3 | refine Ext.set ?_ (by simp) _ | refine Ext.drew ?_ | refine Ext.drewN ?_ _ | refine Ext.alloc ?_ _)
  cases h2 : fin b
  · have e : mkRat a b = ((0, 0), 1) := by simp [mkRat, h2]
    rw [e]
    clear e
    go_enter Try.func37, Try.ntmps37
    go_wp2_with (go_at_call 74; refine (isFinite_c _ _).mono ?_; rintro e w' ⟨rfl, rfl⟩)
    refine bodyPost_ret (v := .tuple #[.agg #[.int .i64 (0), .int .i64 (0)], .int .i64 (1)]) (by simp [results, Try.results37, go_sem, c0, c1]) rfl ⟨rfl, ?_⟩
    repeat (first | exact hE | exact hE3 | refine Ext.set ?_ (by simp) _ | refine Ext.drew ?_ | refine Ext.drewN ?_ _ | refine Ext.alloc ?_ _)
  have b1 := fin_iff.1 h1
  have b2 := fin_iff.1 h2
  by_cases h3 : b = 0
  · subst h3
    have e : mkRat a 0 = ((0, 0), 5) := by simp [mkRat, h1, h2]
    rw [e]
    clear e
    go_enter Try.func37, Try.ntmps37
    go_wp2_with (go_at_call 74; refine (isFinite_c _ _).mono ?_; rintro e w' ⟨rfl, rfl⟩)
    refine bodyPost_ret (v := .tuple #[.agg #[.int .i64 (0), .int .i64 (0)], .int .i64 (5)]) (by simp [results, Try.results37, go_sem, c0, c1]) rfl ⟨rfl, ?_⟩
    repeat (first | exact hE | exact hE3 | refine Ext.set ?_ (by simp) _ | refine Ext.drew ?_ | refine Ext.drewN ?_ _ | refine Ext.alloc ?_ _)
  · have e : mkRat a b = (ratOf a b, 0) := by simp [mkRat, h1, h2, h3]
    rw [e]
    clear e
    have h3' : (b == 0) = false := by simpa using h3
    have h0 : b ≠ 0 := h3
    clear h3
    go_enter Try.func37, Try.ntmps37
    go_wp2_with (first | (go_at_call 74; refine (isFinite_c _ _).mono ?_; rintro e w' ⟨rfl, rfl⟩) | (go_at_call 82; refine (ratioOf_c _ _ _ (by omega) (by omega) h0).mono ?_; rintro e w' ⟨rfl, hE2⟩; obtain ⟨d0, d1, g0, g1⟩ := HB.ext hE2; have hE3 := hE.trans hE2; clear c0 c1 f0 f1 hE hE2))
    refine bodyPost_ret (v := .tuple #[.agg #[.int .i64 ((ratOf a b).1), .int .i64 ((ratOf a b).2)], .int .i64 (0)]) (by simp [results, Try.results37, go_sem, d0, d1]) rfl ⟨rfl, ?_⟩
    repeat (first | exact hE | exact hE3 | refine Ext.set ?_ (by simp) _ | refine Ext.drew ?_ | refine Ext.drewN ?_ _ | refine Ext.alloc ?_ _)

set_option maxHeartbeats 400000 in
theorem sMakeRatio_c (a b : Int) (w : World) :
    Calls Try.prog 38 #[.int .i64 a, .int .i64 b] w fun e w' => e = .returned (.tuple #[.agg #[.int .i64 ((mkRat a b).1).1, .int .i64 ((mkRat a b).1).2], .int .i64 (mkRat a b).2]) ∧ Ext w w' := by
  obtain ⟨W, hW, HB, hs, hE⟩ := alloc2_facts w (.int .i64 0) (.int .i64 0) 42
  have HB' := HB
  obtain ⟨c0, c1, f0, f1⟩ := HB'
  clear hs
  cases h1 : fin a
  · have e : mkRat a b = ((0, 0), 1) := by simp [mkRat, h1]
    rw [e]
    clear e
    go_enter Try.func38, Try.ntmps38
    go_wp2_with (go_at_call 75; refine (asB h1 (l01Finite_c _ _)).mono ?_; rintro e w' ⟨rfl, rfl⟩)
    refine bodyPost_ret (v := .tuple #[.agg #[.int .i64 (0), .int .i64 (0)], .int .i64 (1)]) (by simp [results, Try.results38, go_sem, c0, c1]) rfl ⟨rfl, ?_⟩
    repeat (first | exact hE | exact hE3 | refine Ext.set ?_ (by simp) _ | refine Ext.drew ?_ | refine Ext.drewN ?_ _ | refine Ext.alloc ?_ _)
  cases h2 : fin b
  · have e : mkRat a b = ((0, 0), 1) := by simp [mkRat, h2]
    rw [e]
    clear e
    go_enter Try.func38, Try.ntmps38
    go_wp2_with (go_at_call 75; refine (l01Finite_c _ _).mono ?_; rintro e w' ⟨rfl, rfl⟩)
    refine bodyPost_ret (v := .tuple #[.agg #[.int .i64 (0), .int .i64 (0)], .int .i64 (1)]) (by simp [results, Try.results38, go_sem, c0, c1]) rfl ⟨rfl, ?_⟩
    repeat (first | exact hE | exact hE3 | refine Ext.set ?_ (by simp) _ | refine Ext.drew ?_ | refine Ext.drewN ?_ _ | refine Ext.alloc ?_ _)
  have b1 := fin_iff.1 h1
  have b2 := fin_iff.1 h2
  by_cases h3 : b = 0
  · subst h3
    have e : mkRat a 0 = ((0, 0), 5) := by simp [mkRat, h1, h2]
    rw [e]
    clear e
    go_enter Try.func38, Try.ntmps38
    go_wp2_with (go_at_call 75; refine (l01Finite_c _ _).mono ?_; rintro e w' ⟨rfl, rfl⟩)
    refine bodyPost_ret (v := .tuple #[.agg #[.int .i64 (0), .int .i64 (0)], .int .i64 (5)]) (by simp [results, Try.results38, go_sem, c0, c1]) rfl ⟨rfl, ?_⟩
    repeat (first | exact hE | exact hE3 | refine Ext.set ?_ (by simp) _ | refine Ext.drew ?_ | refine Ext.drewN ?_ _ | refine Ext.alloc ?_ _)
  · have e : mkRat a b = (ratOf a b, 0) := by simp [mkRat, h1, h2, h3]
    rw [e]
    clear e
    have h3' : (b == 0) = false := by simpa using h3
    have h0 : b ≠ 0 := h3
    clear h3
    go_enter Try.func38, Try.ntmps38
    go_wp2_with (first | (go_at_call 75; refine (l01Finite_c _ _).mono ?_; rintro e w' ⟨rfl, rfl⟩) | (go_at_call 83; refine (l01Ratio_c _ _ _ (by omega) (by omega) h0).mono ?_; rintro e w' ⟨rfl, hE2⟩; obtain ⟨d0, d1, g0, g1⟩ := HB.ext hE2; have hE3 := hE.trans hE2; clear c0 c1 f0 f1 hE hE2))
    refine bodyPost_ret (v := .tuple #[.agg #[.int .i64 ((ratOf a b).1), .int .i64 ((ratOf a b).2)], .int .i64 (0)]) (by simp [results, Try.results38, go_sem, d0, d1]) rfl ⟨rfl, ?_⟩
    repeat (first | exact hE | exact hE3 | refine Ext.set ?_ (by simp) _ | refine Ext.drew ?_ | refine Ext.drewN ?_ _ | refine Ext.alloc ?_ _)

theorem cmpRatios_c (a b c d : Int) (w : World) :
    Calls Try.prog 40 #[.agg #[.int .i64 a, .int .i64 b], .agg #[.int .i64 c, .int .i64 d]] w fun e w' => e = .returned (.tuple #[.int .i64 (cmpRV (a, b) (c, d)).1, .int .i64 (cmpRV (a, b) (c, d)).2]) ∧ Ext w w' := by
  obtain ⟨W1, hW1, HA, hs1, hEA⟩ := alloc2_facts w (.int .i64 a) (.int .i64 b) 42
  obtain ⟨W2, hW2, HB, hs2, hEB⟩ := alloc2_facts W1 (.int .i64 c) (.int .i64 d) 42
  rw [hs1] at HB
  replace HA := HA.ext hEB
  have hE := hEA.trans hEB
  clear hs2 hEA hEB
  cases h1 : isRat (a, b)
  · have e : cmpRV (a, b) (c, d) = (0, 1) := by simp [cmpRV, h1]
    rw [e]
    clear e
    have c0 := HA.c0
    have c1 := HA.c1
    go_enter Try.func40, Try.ntmps40
    go_wp2_with fail
    refine (asB h1 (isRatio_c _ _ _)).mono ?_
    rintro e w' ⟨rfl, hE1⟩
    go_wp2
    go_ret2
    exact ⟨rfl, hE.trans hE1⟩
  cases h2 : isRat (c, d)
  · have e : cmpRV (a, b) (c, d) = (0, 1) := by simp [cmpRV, h2]
    rw [e]
    clear e
    have c0 := HA.c0
    have c1 := HA.c1
    go_enter Try.func40, Try.ntmps40
    go_wp2_with fail
    refine (asB h1 (isRatio_c _ _ _)).mono ?_
    rintro e w' ⟨rfl, hE1⟩
    obtain ⟨d0, d1, _, _⟩ := HB.ext hE1
    clear c0 c1
    go_wp2_with fail
    refine (asB h2 (isRatio_c _ _ _)).mono ?_
    rintro e w'' ⟨rfl, hE2⟩
    go_wp2
    go_ret2
    exact ⟨rfl, (hE.trans hE1).trans hE2⟩
  · have e : cmpRV (a, b) (c, d) = (cmpR (a, b) (c, d), 0) := by simp [cmpRV, h1, h2]
    rw [e]
    clear e
    have c0 := HA.c0
    have c1 := HA.c1
    go_enter Try.func40, Try.ntmps40
    go_wp2_with fail
    refine (asB h1 (isRatio_c _ _ _)).mono ?_
    rintro e w' ⟨rfl, hE1⟩
    obtain ⟨d0, d1, _, _⟩ := HB.ext hE1
    clear c0 c1
    go_wp2_with fail
    refine (asB h2 (isRatio_c _ _ _)).mono ?_
    rintro e w'' ⟨rfl, hE2⟩
    obtain ⟨d0, d1, _, _⟩ := (HB.ext hE1).ext hE2
    obtain ⟨e0, e1, _, _⟩ := (HA.ext hE1).ext hE2
    have b1 := isRat_bd h1
    have b2 := isRat_bd h2
    go_wp2_with fail
    refine (compareRatios_c _ _ _ _ _ b1.1 b1.2 b2.1 b2.2).mono ?_
    rintro e w3 ⟨rfl, hE3⟩
    go_wp2
    go_ret2
    exact ⟨rfl, ((hE.trans hE1).trans hE2).trans hE3⟩

theorem sCmpRatios_c (a b c d : Int) (w : World) :
    Calls Try.prog 41 #[.agg #[.int .i64 a, .int .i64 b], .agg #[.int .i64 c, .int .i64 d]] w fun e w' => e = .returned (.tuple #[.int .i64 (cmpRV (a, b) (c, d)).1, .int .i64 (cmpRV (a, b) (c, d)).2]) ∧ Ext w w' := by
  obtain ⟨W1, hW1, HA, hs1, hEA⟩ := alloc2_facts w (.int .i64 a) (.int .i64 b) 42
  obtain ⟨W2, hW2, HB, hs2, hEB⟩ := alloc2_facts W1 (.int .i64 c) (.int .i64 d) 42
  rw [hs1] at HB
  replace HA := HA.ext hEB
  have hE := hEA.trans hEB
  clear hs2 hEA hEB
  cases h1 : isRat (a, b)
  · have e : cmpRV (a, b) (c, d) = (0, 1) := by simp [cmpRV, h1]
    rw [e]
    clear e
    have c0 := HA.c0
    have c1 := HA.c1
    go_enter Try.func41, Try.ntmps41
    go_wp2_with fail
    refine (asB h1 (sIsRatio_c _ _ _)).mono ?_
    rintro e w' ⟨rfl, hE1⟩
    go_wp2
    go_ret2
    exact ⟨rfl, hE.trans hE1⟩
  cases h2 : isRat (c, d)
  · have e : cmpRV (a, b) (c, d) = (0, 1) := by simp [cmpRV, h2]
    rw [e]
    clear e
    have c0 := HA.c0
    have c1 := HA.c1
    go_enter Try.func41, Try.ntmps41
    go_wp2_with fail
    refine (asB h1 (sIsRatio_c _ _ _)).mono ?_
    rintro e w' ⟨rfl, hE1⟩
    obtain ⟨d0, d1, _, _⟩ := HB.ext hE1
    clear c0 c1
    go_wp2_with fail
    refine (asB h2 (sIsRatio_c _ _ _)).mono ?_
    rintro e w'' ⟨rfl, hE2⟩
    go_wp2
    go_ret2
    exact ⟨rfl, (hE.trans hE1).trans hE2⟩
  · have e : cmpRV (a, b) (c, d) = (cmpR (a, b) (c, d), 0) := by simp [cmpRV, h1, h2]
    rw [e]
    clear e
    have c0 := HA.c0
    have c1 := HA.c1
    go_enter Try.func41, Try.ntmps41
    go_wp2_with fail
    refine (asB h1 (sIsRatio_c _ _ _)).mono ?_
    rintro e w' ⟨rfl, hE1⟩
    obtain ⟨d0, d1, _, _⟩ := HB.ext hE1
    clear c0 c1
    go_wp2_with fail
    refine (asB h2 (sIsRatio_c _ _ _)).mono ?_
    rintro e w'' ⟨rfl, hE2⟩
    obtain ⟨d0, d1, _, _⟩ := (HB.ext hE1).ext hE2
    obtain ⟨e0, e1, _, _⟩ := (HA.ext hE1).ext hE2
    have b1 := isRat_bd h1
    have b2 := isRat_bd h2
    go_wp2_with fail
    refine (l01Compare_c _ _ _ _ _ b1.1 b1.2 b2.1 b2.2).mono ?_
    rintro e w3 ⟨rfl, hE3⟩
    go_wp2
    go_ret2
    exact ⟨rfl, ((hE.trans hE1).trans hE2).trans hE3⟩

end Go.Proofs.Ytcgfhmkcopigbaa
