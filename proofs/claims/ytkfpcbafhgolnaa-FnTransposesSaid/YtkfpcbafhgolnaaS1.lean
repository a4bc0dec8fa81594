/- Contracts of the functions that only compute with numbers. Conditions: the bounds that each states. -/
import Derived.Test.YtkfpcbafhgolnaaB
import Derived.Test.YtkfpcbafhgolnaaP1
import Derived.Test.YtkfpcbafhgolnaaRows
namespace Go.Proofs.Ytkfpcbafhgolnaa
set_option linter.unusedVariables false
open Go.RowKit

theorem within_c (n lo hi : Int) (w : World) :
    Calls Try.prog 79 #[.int .i64 n, .int .i64 lo, .int .i64 hi] w fun e w' => e = .returned (.bool (inR n lo hi)) ∧ w = w' := by
  go_enter Try.func79, Try.ntmps79
  go_wp2
  all_goals go_ret
  · exact ⟨ret_bool (by simp [inR, *]), rfl⟩
  · exact ⟨ret_bool (by simp [inR]; omega), rfl⟩

theorem l01In_c (n lo hi : Int) (w : World) :
    Calls Try.prog 98 #[.int .i64 n, .int .i64 lo, .int .i64 hi] w fun e w' => e = .returned (.bool (inR n lo hi)) ∧ w = w' := by
  go_enter Try.func98, Try.ntmps98
  go_wp2
  all_goals go_ret
  · exact ⟨ret_bool (by simp [inR, *]), rfl⟩
  · exact ⟨ret_bool (by simp [inR]; omega), rfl⟩

theorem isFinite_c (n : Int) (w : World) :
    Calls Try.prog 68 #[.int .i64 n] w fun e w' => e = .returned (.bool (fin n)) ∧ w = w' := by
  go_enter Try.func68, Try.ntmps68
  go_wp2_with (go_at_call 79; refine (within_c _ _ _ _).mono ?_; rintro e w' ⟨rfl, rfl⟩)
  go_ret
  exact ⟨rfl, rfl⟩

theorem l01Finite_c (n : Int) (w : World) :
    Calls Try.prog 69 #[.int .i64 n] w fun e w' => e = .returned (.bool (fin n)) ∧ w = w' := by
  go_enter Try.func69, Try.ntmps69
  go_wp2_with (go_at_call 98; refine (l01In_c _ _ _ _).mono ?_; rintro e w' ⟨rfl, rfl⟩)
  go_ret
  exact ⟨rfl, rfl⟩

theorem isValue_c (n : Int) (w : World) :
    Calls Try.prog 22 #[.int .i64 n] w fun e w' => e = .returned (.bool (isVal n)) ∧ w = w' := by
  go_enter Try.func22, Try.ntmps22
  go_wp2_with (go_at_call 68; refine (isFinite_c _ _).mono ?_; rintro e w' ⟨rfl, rfl⟩)
  all_goals go_ret
  all_goals exact ⟨ret_bool (by simp [isVal, *]), rfl⟩

theorem sIsValue_c (n : Int) (w : World) :
    Calls Try.prog 23 #[.int .i64 n] w fun e w' => e = .returned (.bool (isVal n)) ∧ w = w' := by
  go_enter Try.func23, Try.ntmps23
  go_wp2_with (go_at_call 69; refine (l01Finite_c _ _).mono ?_; rintro e w' ⟨rfl, rfl⟩)
  all_goals go_ret
  all_goals exact ⟨ret_bool (by simp [isVal, *]), rfl⟩

theorem times_c (a b : Int) (w : World) (ha : -4000000000000000000 ≤ a ∧ a ≤ 4000000000000000000) (hb : -4000000000000000000 ≤ b ∧ b ≤ 4000000000000000000) :
    Calls Try.prog 61 #[.int .i64 a, .int .i64 b] w fun e w' => e = .returned (.int .i64 (times a b)) ∧ w = w' := by
  obtain ⟨ha1, ha2⟩ := ha; obtain ⟨hb1, hb2⟩ := hb
  go_enter Try.func61, Try.ntmps61
  go_wp2
  all_goals go_ret
  all_goals exact ⟨ret_int (by simp_all [times]), rfl⟩

theorem l01Times_c (a b : Int) (w : World) (ha : -4000000000000000000 ≤ a ∧ a ≤ 4000000000000000000) (hb : -4000000000000000000 ≤ b ∧ b ≤ 4000000000000000000) :
    Calls Try.prog 63 #[.int .i64 a, .int .i64 b] w fun e w' => e = .returned (.int .i64 (times a b)) ∧ w = w' := by
  obtain ⟨ha1, ha2⟩ := ha; obtain ⟨hb1, hb2⟩ := hb
  go_enter Try.func63, Try.ntmps63
  go_wp2
  all_goals go_ret
  all_goals exact ⟨ret_int (by simp_all [times]), rfl⟩

theorem absOf_c (n : Int) (w : World) (h : -4000000000000000000 ≤ n) :
    Calls Try.prog 126 #[.int .i64 n] w fun e w' => e = .returned (.int .i64 (absI n)) ∧ w = w' := by
  go_enter Try.func126, Try.ntmps126
  go_wp2
  all_goals go_ret
  all_goals exact ⟨ret_int (by unfold absI; split <;> omega), rfl⟩

theorem checkedValue_c (n : Int) (w : World) :
    Calls Try.prog 60 #[.int .i64 n] w fun e w' => e = .returned (.tuple #[.int .i64 (chkV n).1, .int .i64 (chkV n).2]) ∧ w = w' := by
  by_cases h : isVal n = true
  · have e : chkV n = (n, 0) := by simp [chkV, h]
    rw [e]
    go_enter Try.func60, Try.ntmps60
    go_wp2_with (go_at_call 22; refine (isValue_c _ _).mono ?_; rintro e w' ⟨rfl, rfl⟩)
    go_ret2
    exact ⟨rfl, rfl⟩
  · have h' : isVal n = false := by simpa using h
    have e : chkV n = (0, 3) := by simp [chkV, h']
    rw [e]
    clear h
    go_enter Try.func60, Try.ntmps60
    go_wp2_with (go_at_call 22; refine (isValue_c _ _).mono ?_; rintro e w' ⟨rfl, rfl⟩)
    go_ret2
    exact ⟨rfl, rfl⟩

theorem l01Value_c (n : Int) (w : World) :
    Calls Try.prog 62 #[.int .i64 n] w fun e w' => e = .returned (.tuple #[.int .i64 (chkV n).1, .int .i64 (chkV n).2]) ∧ w = w' := by
  by_cases h : isVal n = true
  · have e : chkV n = (n, 0) := by simp [chkV, h]
    rw [e]
    go_enter Try.func62, Try.ntmps62
    go_wp2_with (go_at_call 23; refine (sIsValue_c _ _).mono ?_; rintro e w' ⟨rfl, rfl⟩)
    go_ret2
    exact ⟨rfl, rfl⟩
  · have h' : isVal n = false := by simpa using h
    have e : chkV n = (0, 3) := by simp [chkV, h']
    rw [e]
    clear h
    go_enter Try.func62, Try.ntmps62
    go_wp2_with (go_at_call 23; refine (sIsValue_c _ _).mono ?_; rintro e w' ⟨rfl, rfl⟩)
    go_ret2
    exact ⟨rfl, rfl⟩

theorem divisorOf_c (a b : Int) (w : World) (ha : 0 ≤ a ∧ a ≤ 9223372036854775807) (hb : 0 ≤ b ∧ b ≤ 9223372036854775807) :
    Calls Try.prog 125 #[.int .i64 a, .int .i64 b] w fun e w' => e = .returned (.int .i64 (gcdI a b)) ∧ Qt w w' := by
  generalize hg : gcdI a b = g
  have HG := Lib.hid hg
  clear hg
  go_enter Try.func125, Try.ntmps125
  go_wp2
  go_loopw [0, 1] (fun s t wr => ∃ x y : Int, s = .int .i64 x ∧ t = .int .i64 y ∧ 0 ≤ x ∧ x ≤ 9223372036854775807 ∧ 0 ≤ y ∧ y ≤ 9223372036854775807 ∧ Hid (gcdI x y = g) ∧ Qt w wr) (fun _ t _ => (intOf t).toNat)
  case atStart => exact ⟨a, b, rfl, rfl, ha.1, ha.2, hb.1, hb.2, HG.out, Qt.refl _⟩
  case round =>
    obtain ⟨x, y, rfl, rfl, h1, h2, h3, h4, h5, h6⟩ := hrel
    clear ha hb HG
    by_cases hy : 0 < y
    · have hm1 : 0 ≤ x % y := Int.emod_nonneg _ (by omega)
      have hm2 : x % y < y := Int.emod_lt_of_pos _ hy
      go_wp2_with fail
      go_quiet (fail)
      go_wp2
      exact ⟨⟨y, x % y, rfl, rfl, by omega, by omega, by omega, by omega, (by show gcdI y (x % y) = g; rw [gcdI_step h1 hy]; exact h5.out), h6.drewN nq⟩, by simp [intOf]; omega⟩
    · go_wp2
      go_ret
      exact ⟨ret_int (by rw [← h5.out]; exact (gcdI_zero h1 (by omega) h3).symm), h6⟩

set_option maxHeartbeats 800000 in
theorem l01Divisor_c (a b : Int) (w : World) (ha : -9000000000000000000 ≤ a ∧ a ≤ 9000000000000000000) (hb : -9000000000000000000 ≤ b ∧ b ≤ 9000000000000000000) :
    Calls Try.prog 124 #[.int .i64 a, .int .i64 b] w fun e w' => e = .returned (.int .i64 (gcdI a b)) ∧ Qt w w' := by
  generalize hg : gcdI a b = g
  have HG := Lib.hid hg
  clear hg
  obtain ⟨ha1, ha2⟩ := ha; obtain ⟨hb1, hb2⟩ := hb
  go_enter Try.func124, Try.ntmps124
  go_wp2
  all_goals (
    go_loopw [0, 1] (fun s t wr => ∃ x y : Int, s = .int .i64 x ∧ t = .int .i64 y ∧ 0 ≤ x ∧ x ≤ 9223372036854775807 ∧ 0 ≤ y ∧ y ≤ 9223372036854775807 ∧ Hid (gcdI x y = g) ∧ Qt w wr) (fun _ t _ => (intOf t).toNat)
    case atStart => exact ⟨_, _, rfl, rfl, by omega, by omega, by omega, by omega, (by have := HG.out; show gcdI _ _ = g; simpa only [gcdI_negl, gcdI_negr] using this), Qt.refl _⟩
    case round =>
      obtain ⟨x, y, rfl, rfl, h1, h2, h3, h4, h5, h6⟩ := hrel
      clear ha1 ha2 hb1 hb2 HG
      by_cases hy : 0 < y
      · have hm1 : 0 ≤ x % y := Int.emod_nonneg _ (by omega)
        have hm2 : x % y < y := Int.emod_lt_of_pos _ hy
        go_wp2_with fail
        go_quiet (fail)
        go_wp2
        exact ⟨⟨y, x % y, rfl, rfl, by omega, by omega, by omega, by omega, (by show gcdI y (x % y) = g; rw [gcdI_step h1 hy]; exact h5.out), h6.drewN nq⟩, by simp [intOf]; omega⟩
      · go_wp2
        go_ret
        exact ⟨ret_int (by rw [← h5.out]; exact (gcdI_zero h1 (by omega) h3).symm), h6⟩)

end Go.Proofs.Ytkfpcbafhgolnaa
