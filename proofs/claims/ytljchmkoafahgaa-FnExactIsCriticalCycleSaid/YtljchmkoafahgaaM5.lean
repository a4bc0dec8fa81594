/- Contracts of the reference's functions that ask whether lists are matrices, and of impl.isVector. No condition but the sizes. -/
import Derived.Test.YtljchmkoafahgaaM1
namespace Go.Proofs.Ytljchmkoafahgaa
set_option linter.unusedVariables false
open Go.RowKit

theorem isVector_c (a : Option Addr) (cap : Nat) (x : List Int) (w : World) (hx : IntsAt w a x) :
    Calls Try.prog 98 #[.slice a x.length cap] w fun e w' => e = .returned (.bool (isVec x)) ∧ w = w' := by
  have hlen := hx.len
  cases h1 : inR x.length 1 10
  · have e : isVec x = false := by simp [isVec, h1]
    rw [e]; clear e
    go_enter Try.func98, Try.ntmps98
    go_wp2_with fail
    refine (asB h1 (within_c _ _ _ _)).mono ?_
    rintro e w' ⟨rfl, rfl⟩
    go_wp2
    go_ret
    exact ⟨rfl, rfl⟩
  · have e : isVec x = allV x := by simp [isVec, h1]
    rw [e]; clear e
    go_enter Try.func98, Try.ntmps98
    go_wp2_with fail
    refine (asB h1 (within_c _ _ _ _)).mono ?_
    rintro e w' ⟨rfl, rfl⟩
    go_wp2_with fail
    refine (areValues_c _ _ _ _ hx).mono ?_
    rintro e w' ⟨rfl, rfl⟩
    go_wp2
    go_ret
    exact ⟨rfl, rfl⟩

theorem l02Vector_c (a : Option Addr) (cap : Nat) (x : List Int) (w : World) (hx : IntsAt w a x) :
    Calls Try.prog 87 #[.slice a x.length cap] w fun e w' => e = .returned (.bool (isVec x)) ∧ w = w' := by
  have hlen := hx.len
  cases h1 : inR x.length 1 10
  · have e : isVec x = false := by simp [isVec, h1]
    rw [e]; clear e
    go_enter Try.func87, Try.ntmps87
    go_wp2_with fail
    refine (asB h1 (l01In_c _ _ _ _)).mono ?_
    rintro e w' ⟨rfl, rfl⟩
    go_wp2
    go_ret
    exact ⟨rfl, rfl⟩
  · have e : isVec x = allV x := by simp [isVec, h1]
    rw [e]; clear e
    go_enter Try.func87, Try.ntmps87
    go_wp2_with fail
    refine (asB h1 (l01In_c _ _ _ _)).mono ?_
    rintro e w' ⟨rfl, rfl⟩
    go_wp2_with fail
    refine (l01All_c _ _ _ _ hx).mono ?_
    rintro e w' ⟨rfl, rfl⟩
    go_wp2
    go_ret
    exact ⟨rfl, rfl⟩

theorem isMat_alt (m : List (List Int)) : isMat m = (inR m.length 1 10 && m.all fun r => isVec r && r.length == (row m 0).length) := by
  unfold isMat
  cases h1 : inR m.length 1 10
  · simp
  · have h0 : 0 < m.length := by have := inR_iff.1 h1; omega
    simp only [Bool.true_and]
    rw [Bool.eq_iff_iff, Bool.and_eq_true, all_iff_row, all_iff_row]
    constructor
    · rintro ⟨h2, h3⟩ i hi
      have := h3 i hi
      simp only [rowOk, Bool.and_eq_true, beq_iff_eq] at this
      simp only [isVec, Bool.and_eq_true, beq_iff_eq]
      exact ⟨⟨by rw [this.1]; exact h2, this.2⟩, this.1⟩
    · intro h
      have h2 := h 0 h0
      simp only [isVec, Bool.and_eq_true, beq_iff_eq] at h2
      refine ⟨h2.1.1, fun i hi => ?_⟩
      have := h i hi
      simp only [isVec, Bool.and_eq_true, beq_iff_eq] at this
      simp only [rowOk, Bool.and_eq_true, beq_iff_eq]
      exact ⟨this.2, this.1.2⟩

set_option maxHeartbeats 400000 in
theorem sIsMatrix_c (a : Option Addr) (cap : Nat) (m : List (List Int)) (w : World) (hm : MatAt w a m) :
    Calls Try.prog 52 #[.slice a m.length cap] w fun e w' => e = .returned (.bool (isMat m)) ∧ Qt w w' := by
  have hlen := hm.len
  cases h1 : inR m.length 1 10
  · have e : isMat m = false := by simp [isMat, h1]
    rw [e]; clear e
    have h1' := inR_not.1 h1
    have h1'' : m.length < 1 ∨ 10 < m.length := by omega
    clear h1
    rcases h1'' with h | h
    · go_enter Try.func52, Try.ntmps52
      go_wp2
      go_ret
      exact ⟨rfl, Qt.refl _⟩
    · go_enter Try.func52, Try.ntmps52
      go_wp2
      go_ret
      exact ⟨rfl, Qt.refl _⟩
  · have h1' := inR_iff.1 h1
    have hlo : 1 ≤ m.length := by omega
    have hhi : m.length ≤ 10 := by omega
    have e : isMat m = m.all fun r => isVec r && r.length == (row m 0).length := by rw [isMat_alt, h1]; simp
    have He := Lib.hid e
    clear e h1 h1'
    go_enter Try.func52, Try.ntmps52
    go_wp2
    go_loopw [3] (fun i wr => ∃ k : Nat, k ≤ m.length ∧ i = .int .i64 k ∧ Qt w wr ∧ Hid (∀ j, j < k → (isVec (row m j) && (row m j).length == (row m 0).length) = true)) (fun i _ => m.length - (intOf i).toNat)
    case atStart => exact ⟨0, Nat.zero_le _, rfl, Qt.refl _, fun j hj => absurd hj (Nat.not_lt_zero _)⟩
    case round =>
      obtain ⟨k, hk, rfl, hq, hj⟩ := hrel
      by_cases hlt : k < m.length
      · obtain ⟨b, o, rfl, hc⟩ := (hm.qt hq).at hlt
        obtain ⟨ai, ci, c1, hx, _⟩ := hc k hlt
        obtain ⟨a0, c0, d0, hx0, _⟩ := hc 0 (by omega)
        rw [Nat.add_zero] at d0
        have hz : (0 : Int) < (m.length : Int) := by omega
        clear hc
        cases hv : isVec (row m k)
        · have Hv := Lib.hid hv
          clear hv
          go_wp2_with fail
          go_big_quiet ((go_at_call 87; exact quiet_pure (asB Hv.out (l02Vector_c _ _ _ _ (hx.qt ⟨_, rfl⟩)))))
          go_wp2
          go_ret
          exact ⟨ret_bool (by rw [He.out, all_no_row hlt]; rw [Hv.out]; rfl), hq.drewN _⟩
        · have Hv := Lib.hid hv
          clear hv
          by_cases hl : (row m k).length = (row m 0).length
          · have hl' : (((row m k).length : Int) != ((row m 0).length : Int)) = false := by simp [hl]
            have Hl := Lib.hid hl
            clear hl
            go_wp2_with fail
            go_big_quiet ((go_at_call 87; exact quiet_pure (asB Hv.out (l02Vector_c _ _ _ _ (hx.qt ⟨_, rfl⟩)))))
            go_wp2
            go_roundw
            case rel => exact ⟨k + 1, by omega, by go_num, hq.drewN _, fun j h => by
              by_cases e : j = k
              · subst e; rw [Hv.out, Hl.out]; simp
              · exact hj.out j (by omega)⟩
            case measure => simp [intOf]; omega
          · have hl' : (((row m k).length : Int) != ((row m 0).length : Int)) = true := by simp; omega
            have Hl := Lib.hid hl
            clear hl
            go_wp2_with fail
            go_big_quiet ((go_at_call 87; exact quiet_pure (asB Hv.out (l02Vector_c _ _ _ _ (hx.qt ⟨_, rfl⟩)))))
            go_wp2
            go_ret
            exact ⟨ret_bool (by have := Hl.out; rw [He.out, all_no_row hlt]; simp [this]), hq.drewN _⟩
      · go_wp2
        go_ret
        exact ⟨ret_bool (by rw [He.out, all_iff_row.2 fun i hi => hj.out i (by omega)]), hq⟩

theorem l02Square_c (a : Option Addr) (cap : Nat) (m : List (List Int)) (w : World) (hm : MatAt w a m) :
    Calls Try.prog 62 #[.slice a m.length cap] w fun e w' => e = .returned (.bool (isSq m)) ∧ Qt w w' := by
  cases h1 : isMat m
  · have e : isSq m = false := by simp [isSq, h1]
    rw [e]
    clear e
    go_enter Try.func62, Try.ntmps62
    go_wp2_with fail
    refine (asB h1 (sIsMatrix_c _ _ _ _ hm)).mono ?_
    rintro e w' ⟨rfl, hE⟩
    go_wp2
    go_ret
    exact ⟨rfl, hE⟩
  · have hr := isMat_rect h1
    obtain ⟨hr1, hr2, hr3, hr4, hr5⟩ := hr
    have e : isSq m = decide ((m.length : Int) = ((row m 0).length : Int)) := by
      simp only [isSq, h1, Bool.true_and]; rw [Bool.eq_iff_iff]; simp; omega
    have He := Lib.hid e
    have hz : (0 : Int) < (m.length : Int) := by omega
    clear e hr1
    go_enter Try.func62, Try.ntmps62
    go_wp2_with fail
    refine (asB h1 (sIsMatrix_c _ _ _ _ hm)).mono ?_
    rintro e w' ⟨rfl, hE⟩
    obtain ⟨b, o, rfl, hc⟩ := (hm.qt hE).at (i := 0) (by omega)
    obtain ⟨a0, c0, d0, hx0, _⟩ := hc 0 (by omega)
    rw [Nat.add_zero] at d0
    clear hc hx0
    go_wp2
    go_ret
    exact ⟨ret_bool (by rw [He.out]; rfl), hE⟩

end Go.Proofs.Ytljchmkoafahgaa
