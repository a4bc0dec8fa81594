/- Contracts of the functions that only compute with numbers. Conditions: the bounds that each states. -/
import Derived.Test.YtljchmkoafahgaaB
import Derived.Test.YtljchmkoafahgaaP1
import Derived.Test.YtljchmkoafahgaaRows
namespace Go.Proofs.Ytljchmkoafahgaa
set_option linter.unusedVariables false
open Go.RowKit

theorem within_c (n lo hi : Int) (w : World) :
    Calls Try.prog 107 #[.int .i64 n, .int .i64 lo, .int .i64 hi] w fun e w' => e = .returned (.bool (inR n lo hi)) ∧ w = w' := by
  go_enter Try.func107, Try.ntmps107
  go_wp2
  all_goals go_ret
  · exact ⟨ret_bool (by simp [inR, *]), rfl⟩
  · exact ⟨ret_bool (by simp [inR]; omega), rfl⟩

theorem l01In_c (n lo hi : Int) (w : World) :
    Calls Try.prog 124 #[.int .i64 n, .int .i64 lo, .int .i64 hi] w fun e w' => e = .returned (.bool (inR n lo hi)) ∧ w = w' := by
  go_enter Try.func124, Try.ntmps124
  go_wp2
  all_goals go_ret
  · exact ⟨ret_bool (by simp [inR, *]), rfl⟩
  · exact ⟨ret_bool (by simp [inR]; omega), rfl⟩

theorem isFinite_c (n : Int) (w : World) :
    Calls Try.prog 156 #[.int .i64 n] w fun e w' => e = .returned (.bool (fin n)) ∧ w = w' := by
  go_enter Try.func156, Try.ntmps156
  go_wp2_with (go_at_call 107; refine (within_c _ _ _ _).mono ?_; rintro e w' ⟨rfl, rfl⟩)
  go_ret
  exact ⟨rfl, rfl⟩

theorem l01Finite_c (n : Int) (w : World) :
    Calls Try.prog 154 #[.int .i64 n] w fun e w' => e = .returned (.bool (fin n)) ∧ w = w' := by
  go_enter Try.func154, Try.ntmps154
  go_wp2_with (go_at_call 124; refine (l01In_c _ _ _ _).mono ?_; rintro e w' ⟨rfl, rfl⟩)
  go_ret
  exact ⟨rfl, rfl⟩

theorem isValue_c (n : Int) (w : World) :
    Calls Try.prog 148 #[.int .i64 n] w fun e w' => e = .returned (.bool (isVal n)) ∧ w = w' := by
  go_enter Try.func148, Try.ntmps148
  go_wp2_with (go_at_call 156; refine (isFinite_c _ _).mono ?_; rintro e w' ⟨rfl, rfl⟩)
  all_goals go_ret
  all_goals exact ⟨ret_bool (by simp [isVal, *]), rfl⟩

theorem sIsValue_c (n : Int) (w : World) :
    Calls Try.prog 160 #[.int .i64 n] w fun e w' => e = .returned (.bool (isVal n)) ∧ w = w' := by
  go_enter Try.func160, Try.ntmps160
  go_wp2_with (go_at_call 154; refine (l01Finite_c _ _).mono ?_; rintro e w' ⟨rfl, rfl⟩)
  all_goals go_ret
  all_goals exact ⟨ret_bool (by simp [isVal, *]), rfl⟩

theorem times_c (a b : Int) (w : World) (ha : -4000000000000000000 ≤ a ∧ a ≤ 4000000000000000000) (hb : -4000000000000000000 ≤ b ∧ b ≤ 4000000000000000000) :
    Calls Try.prog 141 #[.int .i64 a, .int .i64 b] w fun e w' => e = .returned (.int .i64 (times a b)) ∧ w = w' := by
  obtain ⟨ha1, ha2⟩ := ha; obtain ⟨hb1, hb2⟩ := hb
  go_enter Try.func141, Try.ntmps141
  go_wp2
  all_goals go_ret
  all_goals exact ⟨ret_int (by simp_all [times]), rfl⟩

theorem l01Times_c (a b : Int) (w : World) (ha : -4000000000000000000 ≤ a ∧ a ≤ 4000000000000000000) (hb : -4000000000000000000 ≤ b ∧ b ≤ 4000000000000000000) :
    Calls Try.prog 113 #[.int .i64 a, .int .i64 b] w fun e w' => e = .returned (.int .i64 (times a b)) ∧ w = w' := by
  obtain ⟨ha1, ha2⟩ := ha; obtain ⟨hb1, hb2⟩ := hb
  go_enter Try.func113, Try.ntmps113
  go_wp2
  all_goals go_ret
  all_goals exact ⟨ret_int (by simp_all [times]), rfl⟩

theorem absOf_c (n : Int) (w : World) (h : -4000000000000000000 ≤ n) :
    Calls Try.prog 123 #[.int .i64 n] w fun e w' => e = .returned (.int .i64 (absI n)) ∧ w = w' := by
  go_enter Try.func123, Try.ntmps123
  go_wp2
  all_goals go_ret
  all_goals exact ⟨ret_int (by unfold absI; split <;> omega), rfl⟩

theorem divisorOf_c (a b : Int) (w : World) (ha : 0 ≤ a ∧ a ≤ 9223372036854775807) (hb : 0 ≤ b ∧ b ≤ 9223372036854775807) :
    Calls Try.prog 93 #[.int .i64 a, .int .i64 b] w fun e w' => e = .returned (.int .i64 (gcdI a b)) ∧ Qt w w' := by
  generalize hg : gcdI a b = g
  have HG := Lib.hid hg
  clear hg
  go_enter Try.func93, Try.ntmps93
  go_wp2
  go_loopw [0, 1] (fun s t wr => ∃ x y : Int, s = .int .i64 x ∧ t = .int .i64 y ∧ 0 ≤ x ∧ x ≤ 9223372036854775807 ∧ 0 ≤ y ∧ y ≤ 9223372036854775807 ∧ Hid (gcdI x y = g) ∧ Qt w wr) (fun _ t _ => (intOf t).toNat)
  case atStart => exact ⟨a, b, rfl, rfl, ha.1, ha.2, hb.1, hb.2, HG.out, Qt.refl _⟩
  case round =>
    obtain ⟨x, y, rfl, rfl, h1, h2, h3, h4, h5, h6⟩ := hrel
    clear ha hb HG
    by_cases hy : 0 < y
    · have hm1 : 0 ≤ x % y := Int.emod_nonneg _ (by omega)
      have hm2 : x % y < y := Int.emod_lt_of_pos _ hy
      go_wp2_with fail
      go_quiet (fail)
      go_wp2
      exact ⟨⟨y, x % y, rfl, rfl, by omega, by omega, by omega, by omega, (by show gcdI y (x % y) = g; rw [gcdI_step h1 hy]; exact h5.out), h6.drewN nq⟩, by simp [intOf]; omega⟩
    · go_wp2
      go_ret
      exact ⟨ret_int (by rw [← h5.out]; exact (gcdI_zero h1 (by omega) h3).symm), h6⟩

set_option maxHeartbeats 800000 in
theorem l01Divisor_c (a b : Int) (w : World) (ha : -9000000000000000000 ≤ a ∧ a ≤ 9000000000000000000) (hb : -9000000000000000000 ≤ b ∧ b ≤ 9000000000000000000) :
    Calls Try.prog 139 #[.int .i64 a, .int .i64 b] w fun e w' => e = .returned (.int .i64 (gcdI a b)) ∧ Qt w w' := by
  generalize hg : gcdI a b = g
  have HG := Lib.hid hg
  clear hg
  obtain ⟨ha1, ha2⟩ := ha; obtain ⟨hb1, hb2⟩ := hb
  go_enter Try.func139, Try.ntmps139
  go_wp2
  all_goals (
    go_loopw [0, 1] (fun s t wr => ∃ x y : Int, s = .int .i64 x ∧ t = .int .i64 y ∧ 0 ≤ x ∧ x ≤ 9223372036854775807 ∧ 0 ≤ y ∧ y ≤ 9223372036854775807 ∧ Hid (gcdI x y = g) ∧ Qt w wr) (fun _ t _ => (intOf t).toNat)
    case atStart => exact ⟨_, _, rfl, rfl, by omega, by omega, by omega, by omega, (by have := HG.out; show gcdI _ _ = g; simpa only [gcdI_negl, gcdI_negr] using this), Qt.refl _⟩
    case round =>
      obtain ⟨x, y, rfl, rfl, h1, h2, h3, h4, h5, h6⟩ := hrel
      clear ha1 ha2 hb1 hb2 HG
      by_cases hy : 0 < y
      · have hm1 : 0 ≤ x % y := Int.emod_nonneg _ (by omega)
        have hm2 : x % y < y := Int.emod_lt_of_pos _ hy
        go_wp2_with fail
        go_quiet (fail)
        go_wp2
        exact ⟨⟨y, x % y, rfl, rfl, by omega, by omega, by omega, by omega, (by show gcdI y (x % y) = g; rw [gcdI_step h1 hy]; exact h5.out), h6.drewN nq⟩, by simp [intOf]; omega⟩
      · go_wp2
        go_ret
        exact ⟨ret_int (by rw [← h5.out]; exact (gcdI_zero h1 (by omega) h3).symm), h6⟩)

set_option maxHeartbeats 800000 in
set_option maxRecDepth 100000 in
theorem ratioOf_c (num den : Int) (w : World) (hn : -4000000000000000000 ≤ num ∧ num ≤ 4000000000000000000) (hd : -4000000000000000000 ≤ den ∧ den ≤ 4000000000000000000) (h0 : den ≠ 0) :
    Calls Try.prog 71 #[.int .i64 num, .int .i64 den] w fun e w' => e = .returned (.agg #[.int .i64 (ratOf num den).1, .int .i64 (ratOf num den).2]) ∧ Ext w w' := by
  obtain ⟨hn1, hn2⟩ := hn; obtain ⟨hd1, hd2⟩ := hd
  by_cases hs : den < 0
  · have e : sgnR num den = (-num, -den) := by simp [sgnR, hs]
    have ea := gcdI_abs (-num) (-den)
    unfold ratOf
    rw [e]
    have hg := gcdI_le (a := -num) (b := -den) (by omega)
    have hq1 := tdiv_bd (a := -num) (b := gcdI (-num) (-den)) (A := 4000000000000000000) (by omega)
    have hq2 := tdiv_bd (a := -den) (b := gcdI (-num) (-den)) (A := 4000000000000000000) (by omega)
    have HA := Lib.hid ea
    clear ea e
    have hb := absI_bd (-num) 4000000000000000000 (by omega)
    generalize gcdI (-num) (-den) = g at *
    have hg0 : ¬ g = 0 := by omega
    rw [Int.neg_tdiv] at hq1 hq2
    have hw1 : IntKind.i64.wrap (-num.tdiv g) = (-num.tdiv g) := IntWalk.i64_in _ (by omega)
    have hw2 : IntKind.i64.wrap (-den.tdiv g) = (-den.tdiv g) := IntWalk.i64_in _ (by omega)
    go_enter Try.func71, Try.ntmps71
    go_wp2_with fail
    refine (absOf_c _ _ (by omega)).mono ?_
    rintro e w' ⟨rfl, rfl⟩
    go_wp2_with fail
    refine (divisorOf_c _ _ _ (by omega) (by omega)).mono ?_
    rintro e w' ⟨rfl, hq⟩
    rw [HA.out]
    have c0 : w'.cell? ⟨w.heap.size, 0, none⟩ = some (.int .i64 0) := by rw [hq.cell]; simp
    have c1 : w'.cell? ⟨w.heap.size, 1, none⟩ = some (.int .i64 0) := by rw [hq.cell]; simp
    have f0 : w'.frozen? ⟨w.heap.size, 0, none⟩ = false := by rw [hq.frozen]; simp
    have f1 : w'.frozen? ⟨w.heap.size, 1, none⟩ = false := by rw [hq.frozen]; simp
    have he : Ext w w' := ((Ext.refl w).alloc _).qt hq
    clear hq
    go_wp2_with fail
    go_still_tail 7, (by kernel_rfl)
    change wpList _ _ _ _ _ w'.drew
    go_wp2
    refine bodyPost_ret (v := .agg #[.int .i64 (-num.tdiv g), .int .i64 (-den.tdiv g)]) (by simp [results, Try.results71, go_sem, c0, c1]) rfl ⟨by simp [Int.neg_tdiv], ?_⟩
    repeat (first | exact he | refine Ext.drew ?_ | refine Ext.set ?_ (by simp) _)
  · have e : sgnR num den = (num, den) := by simp [sgnR, hs]
    have ea := gcdI_abs num den
    unfold ratOf
    rw [e]
    have hg := gcdI_le (a := num) (b := den) (by omega)
    have hq1 := tdiv_bd (a := num) (b := gcdI num den) (A := 4000000000000000000) (by omega)
    have hq2 := tdiv_bd (a := den) (b := gcdI num den) (A := 4000000000000000000) (by omega)
    have HA := Lib.hid ea
    clear ea e
    have hb := absI_bd num 4000000000000000000 (by omega)
    generalize gcdI num den = g at *
    have hg0 : ¬ g = 0 := by omega
    have hw1 : IntKind.i64.wrap (num.tdiv g) = (num.tdiv g) := IntWalk.i64_in _ (by omega)
    have hw2 : IntKind.i64.wrap (den.tdiv g) = (den.tdiv g) := IntWalk.i64_in _ (by omega)
    go_enter Try.func71, Try.ntmps71
    go_wp2_with fail
    refine (absOf_c _ _ (by omega)).mono ?_
    rintro e w' ⟨rfl, rfl⟩
    go_wp2_with fail
    refine (divisorOf_c _ _ _ (by omega) (by omega)).mono ?_
    rintro e w' ⟨rfl, hq⟩
    rw [HA.out]
    have c0 : w'.cell? ⟨w.heap.size, 0, none⟩ = some (.int .i64 0) := by rw [hq.cell]; simp
    have c1 : w'.cell? ⟨w.heap.size, 1, none⟩ = some (.int .i64 0) := by rw [hq.cell]; simp
    have f0 : w'.frozen? ⟨w.heap.size, 0, none⟩ = false := by rw [hq.frozen]; simp
    have f1 : w'.frozen? ⟨w.heap.size, 1, none⟩ = false := by rw [hq.frozen]; simp
    have he : Ext w w' := ((Ext.refl w).alloc _).qt hq
    clear hq
    go_wp2_with fail
    go_still_tail 7, (by kernel_rfl)
    change wpList _ _ _ _ _ w'.drew
    go_wp2
    refine bodyPost_ret (v := .agg #[.int .i64 (num.tdiv g), .int .i64 (den.tdiv g)]) (by simp [results, Try.results71, go_sem, c0, c1]) rfl ⟨rfl, ?_⟩
    repeat (first | exact he | refine Ext.drew ?_ | refine Ext.set ?_ (by simp) _)

set_option maxHeartbeats 800000 in
set_option maxRecDepth 100000 in
theorem l01Ratio_c (num den : Int) (w : World) (hn : -4000000000000000000 ≤ num ∧ num ≤ 4000000000000000000) (hd : -4000000000000000000 ≤ den ∧ den ≤ 4000000000000000000) (h0 : den ≠ 0) :
    Calls Try.prog 118 #[.int .i64 num, .int .i64 den] w fun e w' => e = .returned (.agg #[.int .i64 (ratOf num den).1, .int .i64 (ratOf num den).2]) ∧ Ext w w' := by
  obtain ⟨hn1, hn2⟩ := hn; obtain ⟨hd1, hd2⟩ := hd
  by_cases hs : den < 0
  · have e : sgnR num den = (-num, -den) := by simp [sgnR, hs]
    unfold ratOf
    rw [e]
    have hg := gcdI_le (a := -num) (b := -den) (by omega)
    have hq1 := tdiv_bd (a := -num) (b := gcdI (-num) (-den)) (A := 4000000000000000000) (by omega)
    have hq2 := tdiv_bd (a := -den) (b := gcdI (-num) (-den)) (A := 4000000000000000000) (by omega)
    clear e
    have HA : Hid (gcdI (-num) (-den) = gcdI (-num) (-den)) := rfl
    generalize hgg : gcdI (-num) (-den) = g at *
    clear HA
    have HA := Lib.hid hgg
    clear hgg
    have hg0 : ¬ g = 0 := by omega
    rw [Int.neg_tdiv] at hq1 hq2
    have hw1 : IntKind.i64.wrap (-num.tdiv g) = (-num.tdiv g) := IntWalk.i64_in _ (by omega)
    have hw2 : IntKind.i64.wrap (-den.tdiv g) = (-den.tdiv g) := IntWalk.i64_in _ (by omega)
    go_enter Try.func118, Try.ntmps118
    go_wp2_with fail
    refine (l01Divisor_c _ _ _ (by omega) (by omega)).mono ?_
    rintro e w' ⟨rfl, hq⟩
    rw [HA.out]
    have c0 : w'.cell? ⟨w.heap.size, 0, none⟩ = some (.int .i64 0) := by rw [hq.cell]; simp
    have c1 : w'.cell? ⟨w.heap.size, 1, none⟩ = some (.int .i64 0) := by rw [hq.cell]; simp
    have f0 : w'.frozen? ⟨w.heap.size, 0, none⟩ = false := by rw [hq.frozen]; simp
    have f1 : w'.frozen? ⟨w.heap.size, 1, none⟩ = false := by rw [hq.frozen]; simp
    have he : Ext w w' := ((Ext.refl w).alloc _).qt hq
    clear hq
    go_wp2_with fail
    go_still_tail 7, (by kernel_rfl)
    change wpList _ _ _ _ _ w'.drew
    go_wp2
    refine bodyPost_ret (v := .agg #[.int .i64 (-num.tdiv g), .int .i64 (-den.tdiv g)]) (by simp [results, Try.results118, go_sem, c0, c1]) rfl ⟨by simp [Int.neg_tdiv], ?_⟩
    repeat (first | exact he | refine Ext.drew ?_ | refine Ext.set ?_ (by simp) _)
  · have e : sgnR num den = (num, den) := by simp [sgnR, hs]
    unfold ratOf
    rw [e]
    have hg := gcdI_le (a := num) (b := den) (by omega)
    have hq1 := tdiv_bd (a := num) (b := gcdI num den) (A := 4000000000000000000) (by omega)
    have hq2 := tdiv_bd (a := den) (b := gcdI num den) (A := 4000000000000000000) (by omega)
    clear e
    have HA : Hid (gcdI num den = gcdI num den) := rfl
    generalize hgg : gcdI num den = g at *
    clear HA
    have HA := Lib.hid hgg
    clear hgg
    have hg0 : ¬ g = 0 := by omega
    have hw1 : IntKind.i64.wrap (num.tdiv g) = (num.tdiv g) := IntWalk.i64_in _ (by omega)
    have hw2 : IntKind.i64.wrap (den.tdiv g) = (den.tdiv g) := IntWalk.i64_in _ (by omega)
    go_enter Try.func118, Try.ntmps118
    go_wp2_with fail
    refine (l01Divisor_c _ _ _ (by omega) (by omega)).mono ?_
    rintro e w' ⟨rfl, hq⟩
    rw [HA.out]
    have c0 : w'.cell? ⟨w.heap.size, 0, none⟩ = some (.int .i64 0) := by rw [hq.cell]; simp
    have c1 : w'.cell? ⟨w.heap.size, 1, none⟩ = some (.int .i64 0) := by rw [hq.cell]; simp
    have f0 : w'.frozen? ⟨w.heap.size, 0, none⟩ = false := by rw [hq.frozen]; simp
    have f1 : w'.frozen? ⟨w.heap.size, 1, none⟩ = false := by rw [hq.frozen]; simp
    have he : Ext w w' := ((Ext.refl w).alloc _).qt hq
    clear hq
    go_wp2_with fail
    go_still_tail 7, (by kernel_rfl)
    change wpList _ _ _ _ _ w'.drew
    go_wp2
    refine bodyPost_ret (v := .agg #[.int .i64 (num.tdiv g), .int .i64 (den.tdiv g)]) (by simp [results, Try.results118, go_sem, c0, c1]) rfl ⟨rfl, ?_⟩
    repeat (first | exact he | refine Ext.drew ?_ | refine Ext.set ?_ (by simp) _)

end Go.Proofs.Ytljchmkoafahgaa
