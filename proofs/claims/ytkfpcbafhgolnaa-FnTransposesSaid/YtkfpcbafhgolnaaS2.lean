/- Contracts of the functions over ratios, and of the exported functions over numbers. Conditions: the bounds that each states. -/
import Derived.Test.YtkfpcbafhgolnaaS1
namespace Go.Proofs.Ytkfpcbafhgolnaa
set_option linter.unusedVariables false
open Go.RowKit

set_option maxHeartbeats 400000 in
theorem isRatio_c1 (a b : Int) (w : World) (h1 : fin a = false) :
    Calls Try.prog 104 #[.agg #[.int .i64 a, .int .i64 b]] w fun e w' => e = .returned (.bool false) ∧ Ext w w' := by
  obtain ⟨W, hW, ⟨c0, c1, f0, f1⟩, hs, hE⟩ := alloc2_facts w (.int .i64 a) (.int .i64 b) 56
  clear hs f0 f1
  go_enter Try.func104, Try.ntmps104
  go_wp2_with fail
  go_big_quiet ((go_at_call 68; exact quiet_pure (asB h1 (isFinite_c _ _))))
  go_wp2
  go_ret
  exact ⟨rfl, hE.drewN _⟩
set_option maxHeartbeats 400000 in
theorem isRatio_c2 (a b : Int) (w : World) (h1 : fin a = true) (h2 : inR b 1 1000000 = false) :
    Calls Try.prog 104 #[.agg #[.int .i64 a, .int .i64 b]] w fun e w' => e = .returned (.bool false) ∧ Ext w w' := by
  obtain ⟨W, hW, ⟨c0, c1, f0, f1⟩, hs, hE⟩ := alloc2_facts w (.int .i64 a) (.int .i64 b) 56
  clear hs f0 f1
  go_enter Try.func104, Try.ntmps104
  go_wp2_with fail
  go_big_quiet ((first | (go_at_call 68; exact quiet_pure (asB h1 (isFinite_c _ _))) | (go_at_call 79; exact quiet_pure (asB h2 (within_c _ _ _ _)))))
  go_wp2
  go_ret
  exact ⟨rfl, hE.drewN _⟩
set_option maxHeartbeats 400000 in
theorem isRatio_c3 (a b : Int) (w : World) (h1 : fin a = true) (h2 : inR b 1 1000000 = true) :
    Calls Try.prog 104 #[.agg #[.int .i64 a, .int .i64 b]] w fun e w' => e = .returned (.bool (gcdI a b == 1)) ∧ Ext w w' := by
  have b1 := fin_iff.1 h1
  have b2 := inR_iff.1 h2
  have b3 := absI_bd a 1000000 (by omega)
  have e := gcdI_abs a b
  have HE := Lib.hid e
  clear e
  obtain ⟨W, hW, ⟨c0, c1, f0, f1⟩, hs, hE⟩ := alloc2_facts w (.int .i64 a) (.int .i64 b) 56
  clear hs f0 f1
  go_enter Try.func104, Try.ntmps104
  go_wp2_with fail
  go_big_quiet ((first | (go_at_call 68; exact quiet_pure (asB h1 (isFinite_c _ _))) | (go_at_call 79; exact quiet_pure (asB h2 (within_c _ _ _ _))) | (go_at_call 126; exact quiet_pure (absOf_c _ _ (by omega))) | (go_at_call 125; exact quiet_call (divisorOf_c _ _ _ (by omega) (by omega)))))
  go_wp2
  go_ret
  exact ⟨ret_bool (by rw [← HE.out]), hE.drewN _⟩
theorem isRatio_c (a b : Int) (w : World) :
    Calls Try.prog 104 #[.agg #[.int .i64 a, .int .i64 b]] w fun e w' => e = .returned (.bool (isRat (a, b))) ∧ Ext w w' := by
  unfold isRat
  cases h1 : fin a
  · exact isRatio_c1 a b w h1
  · cases h2 : inR b 1 1000000
    · exact isRatio_c2 a b w h1 h2
    · exact isRatio_c3 a b w h1 h2

theorem sIsRatio_c (a b : Int) (w : World) :
    Calls Try.prog 102 #[.agg #[.int .i64 a, .int .i64 b]] w fun e w' => e = .returned (.bool (isRat (a, b))) ∧ Ext w w' := by
  unfold isRat
  cases h1 : fin a
  · go_enter Try.func102, Try.ntmps102
    go_wp2_with (go_at_call 69; refine (l01Finite_c _ _).mono ?_; rintro e w' ⟨rfl, rfl⟩)
    go_ret
    exact ⟨ret_bool (by simp), ((Ext.refl w).alloc _)⟩
  · cases h2 : inR b 1 1000000
    · go_enter Try.func102, Try.ntmps102
      go_wp2_with (first | (go_at_call 69; refine (l01Finite_c _ _).mono ?_; rintro e w' ⟨rfl, rfl⟩) | (go_at_call 98; refine (l01In_c _ _ _ _).mono ?_; rintro e w' ⟨rfl, rfl⟩))
      go_ret
      exact ⟨ret_bool (by simp), ((Ext.refl w).alloc _)⟩
    · have b1 := fin_iff.1 h1
      have b2 := inR_iff.1 h2
      go_enter Try.func102, Try.ntmps102
      go_wp2_with (first | (go_at_call 69; refine (l01Finite_c _ _).mono ?_; rintro e w' ⟨rfl, rfl⟩) | (go_at_call 98; refine (l01In_c _ _ _ _).mono ?_; rintro e w' ⟨rfl, rfl⟩) | (go_at_call 124; refine (l01Divisor_c _ _ _ (by omega) (by omega)).mono ?_; rintro e w' ⟨rfl, hq⟩))
      go_ret
      exact ⟨ret_bool (by simp), ((Ext.refl w).alloc _).qt hq⟩

theorem toRatio_c (a b : Int) (w : World) :
    Calls Try.prog 53 #[.agg #[.int .i64 a, .int .i64 b]] w fun e w' => e = .returned (.agg #[.int .i64 a, .int .i64 b]) ∧ Ext w w' := by
  go_enter Try.func53, Try.ntmps53
  go_wp2
  refine bodyPost_ret (v := .agg #[.int .i64 a, .int .i64 b]) (by simp [results, Try.results53, go_sem]) rfl ⟨rfl, ?_⟩
  repeat (first | exact Ext.refl _ | refine Ext.set ?_ (by simp) _ | refine Ext.alloc ?_ _)

theorem productOf_c (a b : Int) (w : World) :
    Calls Try.prog 17 #[.int .i64 a, .int .i64 b] w fun e w' => e = .returned (.tuple #[.int .i64 (prodV a b).1, .int .i64 (prodV a b).2]) ∧ w = w' := by
  cases h1 : isVal a
  · have e : prodV a b = (0, 1) := by simp [prodV, h1]
    rw [e]
    clear e
    go_enter Try.func17, Try.ntmps17
    go_wp2_with (go_at_call 22; refine (asB h1 (isValue_c _ _)).mono ?_; rintro e w' ⟨rfl, rfl⟩)
    go_ret2
    exact ⟨rfl, rfl⟩
  · cases h2 : isVal b
    · have e : prodV a b = (0, 1) := by simp [prodV, h2]
      rw [e]
      clear e
      go_enter Try.func17, Try.ntmps17
      go_wp2_with (go_at_call 22; refine (isValue_c _ _).mono ?_; rintro e w' ⟨rfl, rfl⟩)
      go_ret2
      exact ⟨rfl, rfl⟩
    · have b1 := isVal_bd h1
      have b2 := isVal_bd h2
      have e := rfl (a := prodV a b)
      conv at e => rhs; simp only [prodV, h1, h2, Bool.and_self, if_true]
      have HE := Lib.hid e
      clear e
      go_enter Try.func17, Try.ntmps17
      go_wp2_with (first | (go_at_call 22; refine (isValue_c _ _).mono ?_; rintro e w' ⟨rfl, rfl⟩) | (go_at_call 60; refine (checkedValue_c _ _).mono ?_; rintro e w' ⟨rfl, rfl⟩) | (go_at_call 61; refine (times_c _ _ _ (by omega) (by omega)).mono ?_; rintro e w' ⟨rfl, rfl⟩))
      all_goals go_ret2
      all_goals exact ⟨ret_pair (by rw [HE.out] <;> simp_all), rfl⟩

theorem sProductOf_c (a b : Int) (w : World) :
    Calls Try.prog 18 #[.int .i64 a, .int .i64 b] w fun e w' => e = .returned (.tuple #[.int .i64 (prodV a b).1, .int .i64 (prodV a b).2]) ∧ w = w' := by
  cases h1 : isVal a
  · have e : prodV a b = (0, 1) := by simp [prodV, h1]
    rw [e]
    clear e
    go_enter Try.func18, Try.ntmps18
    go_wp2_with (go_at_call 23; refine (asB h1 (sIsValue_c _ _)).mono ?_; rintro e w' ⟨rfl, rfl⟩)
    go_ret2
    exact ⟨rfl, rfl⟩
  · cases h2 : isVal b
    · have e : prodV a b = (0, 1) := by simp [prodV, h2]
      rw [e]
      clear e
      go_enter Try.func18, Try.ntmps18
      go_wp2_with (go_at_call 23; refine (sIsValue_c _ _).mono ?_; rintro e w' ⟨rfl, rfl⟩)
      go_ret2
      exact ⟨rfl, rfl⟩
    · have b1 := isVal_bd h1
      have b2 := isVal_bd h2
      have e := rfl (a := prodV a b)
      conv at e => rhs; simp only [prodV, h1, h2, Bool.and_self, if_true]
      have HE := Lib.hid e
      clear e
      go_enter Try.func18, Try.ntmps18
      go_wp2_with (first | (go_at_call 23; refine (sIsValue_c _ _).mono ?_; rintro e w' ⟨rfl, rfl⟩) | (go_at_call 62; refine (l01Value_c _ _).mono ?_; rintro e w' ⟨rfl, rfl⟩) | (go_at_call 63; refine (l01Times_c _ _ _ (by omega) (by omega)).mono ?_; rintro e w' ⟨rfl, rfl⟩))
      all_goals go_ret2
      all_goals exact ⟨ret_pair (by rw [HE.out] <;> simp_all), rfl⟩

end Go.Proofs.Ytkfpcbafhgolnaa
