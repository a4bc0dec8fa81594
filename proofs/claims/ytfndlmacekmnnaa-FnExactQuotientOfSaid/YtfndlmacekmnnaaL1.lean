/- The walks of the laws over numbers. Conditions: the arguments fit int64. -/
import Derived.Test.YtfndlmacekmnnaaS2
namespace Go.Proofs.Ytfndlmacekmnnaa
set_option linter.unusedVariables false
open Go.RowKit

theorem FnExactConstants_walk (w : World) : Calls Try.prog 3 #[] w fun e w' => e = .returned (.bool true) ∧ Ext w w' := by
  go_enter Try.func3, Try.ntmps3
  go_wp2
  go_ret
  exact ⟨rfl, Ext.refl _⟩

theorem FnExactIsValue_walk (a : Int) (ha : -9223372036854775808 ≤ a ∧ a ≤ 9223372036854775807) (w : World) :
    Calls Try.prog 4 #[.int .i64 a] w fun e w' => e = .returned (.bool true) ∧ Ext w w' := by
  have h1 : (isVal a != isVal a) = false := by simp
  go_enter Try.func4, Try.ntmps4
  go_wp2_with (first | (go_at_call 15; refine (sIsValue_c _ _).mono ?_; rintro e w' ⟨rfl, rfl⟩) | (go_at_call 16; refine (isValue_c _ _).mono ?_; rintro e w' ⟨rfl, rfl⟩))
  go_ret
  exact ⟨rfl, Ext.refl _⟩

theorem FnExactQuotientOf_walk (a : Int) (ha : -9223372036854775808 ≤ a ∧ a ≤ 9223372036854775807) (b : Int) (hb : -9223372036854775808 ≤ b ∧ b ≤ 9223372036854775807) (w : World) :
    Calls Try.prog 6 #[.int .i64 a, .int .i64 b] w fun e w' => e = .returned (.bool true) ∧ Ext w w' := by
  go_enter Try.func6, Try.ntmps6
  go_wp2_with (first | (go_at_call 20; refine (sQuotientOf_c _ _ _).mono ?_; rintro e w' ⟨rfl, rfl⟩) | (go_at_call 21; refine (quotientOf_c _ _ _).mono ?_; rintro e w' ⟨rfl, rfl⟩))
  go_ret
  exact ⟨rfl, Ext.refl _⟩

theorem FnExactPowerOf_walk (a : Int) (ha : -9223372036854775808 ≤ a ∧ a ≤ 9223372036854775807) (b : Int) (hb : -9223372036854775808 ≤ b ∧ b ≤ 9223372036854775807) (w : World) :
    Calls Try.prog 7 #[.int .i64 a, .int .i64 b] w fun e w' => e = .returned (.bool true) ∧ Ext w w' := by
  go_enter Try.func7, Try.ntmps7
  go_wp2_with (first | (go_at_call 22; refine (sPowerOf_c _ _ _).mono ?_; rintro e w' ⟨rfl, rfl⟩) | (go_at_call 23; refine (powerOf_c _ _ _).mono ?_; rintro e w' ⟨rfl, rfl⟩))
  go_ret
  exact ⟨rfl, Ext.refl _⟩

theorem FnExactProductOf_walk (a : Int) (ha : -9223372036854775808 ≤ a ∧ a ≤ 9223372036854775807) (b : Int) (hb : -9223372036854775808 ≤ b ∧ b ≤ 9223372036854775807) (w : World) :
    Calls Try.prog 8 #[.int .i64 a, .int .i64 b] w fun e w' => e = .returned (.bool true) ∧ Ext w w' := by
  go_enter Try.func8, Try.ntmps8
  go_wp2_with (first | (go_at_call 24; refine (sProductOf_c _ _ _).mono ?_; rintro e w' ⟨rfl, rfl⟩) | (go_at_call 25; refine (productOf_c _ _ _).mono ?_; rintro e w' ⟨rfl, rfl⟩))
  go_ret
  exact ⟨rfl, Ext.refl _⟩

theorem FnExactMakeRatio_walk (a : Int) (ha : -9223372036854775808 ≤ a ∧ a ≤ 9223372036854775807) (b : Int) (hb : -9223372036854775808 ≤ b ∧ b ≤ 9223372036854775807) (w : World) :
    Calls Try.prog 9 #[.int .i64 a, .int .i64 b] w fun e w' => e = .returned (.bool true) ∧ Ext w w' := by
  go_enter Try.func9, Try.ntmps9
  go_wp2_with fail
  refine (sMakeRatio_c _ _ _).mono ?_
  rintro e w1 ⟨rfl, hE1⟩
  generalize hm : mkRat a b = m
  have HM := Lib.hid hm
  clear hm
  obtain ⟨W1, hW1, HB1, hs1, hEW1⟩ := alloc2_facts w1 (.int .i64 m.1.1) (.int .i64 m.1.2) 27
  go_wp2_with fail
  refine (makeRatio_c _ _ _).mono ?_
  rintro e w2 ⟨rfl, hE2⟩
  rw [HM.out]
  obtain ⟨W2, hW2, HB2, hs2, hEW2⟩ := alloc2_facts w2 (.int .i64 m.1.1) (.int .i64 m.1.2) 27
  have HB3 := (HB1.ext hE2).ext hEW2
  obtain ⟨c0, c1, _, _⟩ := HB2
  obtain ⟨d0, d1, _, _⟩ := HB3
  go_wp2_with fail
  refine (asB (c := true) (by simp) (eqRatio_c _ _ _ _ _)).mono ?_
  rintro e w3 ⟨rfl, hE3⟩
  go_wp2
  go_ret
  exact ⟨rfl, (((hE1.trans hEW1).trans hE2).trans hEW2).trans hE3⟩

theorem FnExactIsRatio_walk (x y : Int) (hx : -9223372036854775808 ≤ x ∧ x ≤ 9223372036854775807) (hy : -9223372036854775808 ≤ y ∧ y ≤ 9223372036854775807) (w : World) :
    Calls Try.prog 5 #[.agg #[.int .i64 x, .int .i64 y]] w fun e w' => e = .returned (.bool true) ∧ Ext w w' := by
  have h1 : (isRat (x, y) != isRat (x, y)) = false := by simp
  obtain ⟨W, hW, HB, hs, hE⟩ := alloc2_facts w (.int .i64 x) (.int .i64 y) 25
  obtain ⟨c0, c1, f0, f1⟩ := HB
  go_enter Try.func5, Try.ntmps5
  go_wp2_with fail
  refine (toRatio_c _ _ _).mono ?_
  rintro e w1 ⟨rfl, hE1⟩
  have e0 := hE1.cell c0
  have e1 := hE1.cell c1
  clear c0 c1 f0 f1
  go_wp2_with fail
  refine (sIsRatio_c _ _ _).mono ?_
  rintro e w2 ⟨rfl, hE2⟩
  have c0 := hE2.cell e0
  have c1 := hE2.cell e1
  clear e0 e1
  go_wp2_with fail
  refine (toRatio_c _ _ _).mono ?_
  rintro e w3 ⟨rfl, hE3⟩
  go_wp2_with fail
  refine (isRatio_c _ _ _).mono ?_
  rintro e w4 ⟨rfl, hE4⟩
  clear c0 c1
  go_wp2
  go_ret
  exact ⟨rfl, (((hE.trans hE1).trans hE2).trans hE3).trans hE4⟩

theorem FnExactCompareRatios_walk (x y : Int) (hx : -9223372036854775808 ≤ x ∧ x ≤ 9223372036854775807) (hy : -9223372036854775808 ≤ y ∧ y ≤ 9223372036854775807) (z t : Int) (hz : -9223372036854775808 ≤ z ∧ z ≤ 9223372036854775807) (ht : -9223372036854775808 ≤ t ∧ t ≤ 9223372036854775807) (w : World) :
    Calls Try.prog 12 #[.agg #[.int .i64 x, .int .i64 y], .agg #[.int .i64 z, .int .i64 t]] w fun e w' => e = .returned (.bool true) ∧ Ext w w' := by
  obtain ⟨W1, hW1, HA, hs1, hE1⟩ := alloc2_facts w (.int .i64 x) (.int .i64 y) 25
  obtain ⟨W2, hW2, HB, hs2, hE2⟩ := alloc2_facts W1 (.int .i64 z) (.int .i64 t) 25
  rw [hs1] at HB
  replace HA := HA.ext hE2
  obtain ⟨c0, c1, f0, f1⟩ := HA
  obtain ⟨d0, d1, g0, g1⟩ := HB
  go_enter Try.func12, Try.ntmps12
  go_wp2_with fail
  go_region_held3 (fun w' => Ext W2 w' ∧ w'.cell? ⟨w.heap.size, 0, none⟩ = some (.int .i64 x) ∧ w'.cell? ⟨w.heap.size, 1, none⟩ = some (.int .i64 y) ∧ w'.cell? ⟨w.heap.size + 1, 0, none⟩ = some (.int .i64 z) ∧ w'.cell? ⟨w.heap.size + 1, 1, none⟩ = some (.int .i64 t))
    ((refine keepR2 c0 c1 d0 d1 ?_; (first | exact Ext.refl _ | exact (Ext.refl _).drew | exact Ext.trans ((Ext.refl _).drew) hE | exact Ext.trans (And.left ‹_›) hE)))
    (first | (go_at_call 18; refine (toRatio_c _ _ _).mono ?_; rintro e w' ⟨rfl, hE⟩) | (go_at_call 40; refine (sCmpRatios_c _ _ _ _ _).mono ?_; rintro e w' ⟨rfl, hE⟩))
  rename_i hH
  obtain ⟨W3, rfl⟩ : ∃ W3, W3 = w' := ⟨_, rfl⟩
  have hX := hE1.trans (hE2.trans hH.1)
  obtain ⟨_, e0, e1, e2, e3⟩ := hH
  clear c0 c1 f0 f1 d0 d1 g0 g1
  go_wp2_with fail
  go_region_held3 (fun w' => Ext W3 w' ∧ w'.cell? ⟨w.heap.size, 0, none⟩ = some (.int .i64 x) ∧ w'.cell? ⟨w.heap.size, 1, none⟩ = some (.int .i64 y) ∧ w'.cell? ⟨w.heap.size + 1, 0, none⟩ = some (.int .i64 z) ∧ w'.cell? ⟨w.heap.size + 1, 1, none⟩ = some (.int .i64 t))
    ((refine keepR2 e0 e1 e2 e3 ?_; (first | exact Ext.refl _ | exact (Ext.refl _).drew | exact Ext.trans ((Ext.refl _).drew) hE | exact Ext.trans (And.left ‹_›) hE)))
    (first | (go_at_call 18; refine (toRatio_c _ _ _).mono ?_; rintro e w' ⟨rfl, hE⟩) | (go_at_call 41; refine (cmpRatios_c _ _ _ _ _).mono ?_; rintro e w' ⟨rfl, hE⟩))
  rename_i hH
  have hY := hX.trans hH.1
  clear e0 e1 e2 e3 hH
  go_wp2
  go_ret
  exact ⟨rfl, hY⟩

end Go.Proofs.Ytfndlmacekmnnaa
