/- Contracts of the functions over one list of integers that only read. No condition but the sizes. -/
import Derived.Test.YtljchmkoafahgaaB2
import Derived.Test.YtljchmkoafahgaaP2
import Derived.Test.YtljchmkoafahgaaS2
namespace Go.Proofs.Ytljchmkoafahgaa
set_option linter.unusedVariables false
open Go.RowKit

theorem areValuesF_c (n : Int) (w : World) : Calls Try.prog 147 #[.int .i64 n] w fun e w' => e = .returned (.bool (!isVal n)) ∧ w = w' := by
  go_enter Try.func147, Try.ntmps147
  go_wp2_with (go_at_call 148; refine (isValue_c _ _).mono ?_; rintro e w' ⟨rfl, rfl⟩)
  go_ret
  exact ⟨rfl, rfl⟩

theorem indexNV_c (a : Option Addr) (cap : Nat) (xs : List Int) (w : World) (h : IntsAt w a xs) :
    Calls Try.prog 164 #[.slice a xs.length cap, .func (.func 147) #[] #[]] w fun e w' => ∃ r : Int, e = .returned (.int .i64 r) ∧ decide (0 ≤ r) = (!allV xs) ∧ w = w' := by
  have hlen := h.len
  go_enter Try.func164, Try.ntmps164
  go_wp2
  go_loop [8] (fun i => ∃ k : Nat, k ≤ xs.length ∧ i = .int .i64 k ∧ Hid (∀ j, j < k → isVal (nth xs j) = true)) (fun i => xs.length - (intOf i).toNat)
  case atStart => exact ⟨0, Nat.zero_le _, rfl, fun j hj => absurd hj (Nat.not_lt_zero _)⟩
  case round =>
    obtain ⟨k, hk, rfl, hj⟩ := hrel
    by_cases hlt : k < xs.length
    · obtain ⟨b, o, rfl, hc⟩ := h.at hlt
      have c1 := hc k hlt
      clear hc
      cases hv : isVal (nth xs k)
      · have Hv := Lib.hid hv
        have hn : (!isVal (nth xs k)) = true := by rw [hv]; rfl
        clear hv
        go_wp2_with fail
        refine (asB hn (areValuesF_c _ _)).mono ?_
        rintro e w' ⟨rfl, rfl⟩
        go_wp2
        go_ret
        exact ⟨k, rfl, by rw [allV_no hlt Hv.out]; simp, rfl⟩
      · have Hv := Lib.hid hv
        have hn : (!isVal (nth xs k)) = false := by rw [hv]; rfl
        clear hv
        go_wp2_with fail
        refine (asB hn (areValuesF_c _ _)).mono ?_
        rintro e w' ⟨rfl, rfl⟩
        go_wp2
        go_round
        case rel => exact ⟨k + 1, by omega, by go_num, fun j h => by
          by_cases e : j = k
          · subst e; exact Hv.out
          · exact hj.out j (by omega)⟩
        case measure => simp [intOf]; omega
    · go_wp2
      go_ret
      exact ⟨-1, rfl, by rw [allV_iff.2 fun i hi => hj.out i (by omega)]; rfl, rfl⟩

theorem areValues_c (a : Option Addr) (cap : Nat) (xs : List Int) (w : World) (h : IntsAt w a xs) :
    Calls Try.prog 110 #[.slice a xs.length cap] w fun e w' => e = .returned (.bool (allV xs)) ∧ w = w' := by
  have hC : Calls Try.prog 146 #[.slice a xs.length cap, .func (.func 147) #[] #[]] w fun e w' => e = .returned (.bool (!allV xs)) ∧ w = w' := by
    go_enter Try.func146, Try.ntmps146
    go_wp2_with fail
    refine (indexNV_c _ _ _ _ h).mono ?_
    rintro e w' ⟨r, rfl, hr, rfl⟩
    have Hr := Lib.hid hr
    clear hr
    go_wp2
    go_ret
    exact ⟨ret_bool Hr.out, rfl⟩
  have HC := Lib.hid hC
  clear hC
  go_enter Try.func110, Try.ntmps110
  go_wp2_with fail
  refine HC.out.mono ?_
  rintro e w' ⟨rfl, rfl⟩
  go_wp2
  go_ret
  exact ⟨ret_bool (by simp), rfl⟩

theorem l01All_c (a : Option Addr) (cap : Nat) (xs : List Int) (w : World) (h : IntsAt w a xs) :
    Calls Try.prog 134 #[.slice a xs.length cap, .bool false] w fun e w' => e = .returned (.bool (allV xs)) ∧ w = w' := by
  have hlen := h.len
  go_enter Try.func134, Try.ntmps134
  go_wp2
  go_loop [5] (fun i => ∃ k : Nat, k ≤ xs.length ∧ i = .int .i64 k ∧ Hid (∀ j, j < k → isVal (nth xs j) = true)) (fun i => xs.length - (intOf i).toNat)
  case atStart => exact ⟨0, Nat.zero_le _, rfl, fun j hj => absurd hj (Nat.not_lt_zero _)⟩
  case round =>
    obtain ⟨k, hk, rfl, hj⟩ := hrel
    by_cases hlt : k < xs.length
    · obtain ⟨b, o, rfl, hc⟩ := h.at hlt
      have c1 := hc k hlt
      clear hc
      cases hv : isVal (nth xs k)
      · have Hv := Lib.hid hv
        clear hv
        go_wp2_with fail
        refine (asB Hv.out (sIsValue_c _ _)).mono ?_
        rintro e w' ⟨rfl, rfl⟩
        go_wp2
        go_ret
        exact ⟨ret_bool (by rw [allV_no hlt Hv.out]), rfl⟩
      · have Hv := Lib.hid hv
        clear hv
        go_wp2_with fail
        refine (asB Hv.out (sIsValue_c _ _)).mono ?_
        rintro e w' ⟨rfl, rfl⟩
        go_wp2
        go_round
        case rel => exact ⟨k + 1, by omega, by go_num, fun j h => by
          by_cases e : j = k
          · subst e; exact Hv.out
          · exact hj.out j (by omega)⟩
        case measure => simp [intOf]; omega
    · go_wp2
      go_ret
      exact ⟨ret_bool (by rw [allV_iff.2 fun i hi => hj.out i (by omega)]), rfl⟩

theorem l01AllF_c (a : Option Addr) (cap : Nat) (xs : List Int) (w : World) (h : IntsAt w a xs) :
    Calls Try.prog 134 #[.slice a xs.length cap, .bool true] w fun e w' => e = .returned (.bool (allF xs)) ∧ w = w' := by
  have hlen := h.len
  go_enter Try.func134, Try.ntmps134
  go_wp2
  go_loop [5] (fun i => ∃ k : Nat, k ≤ xs.length ∧ i = .int .i64 k ∧ Hid (∀ j, j < k → fin (nth xs j) = true)) (fun i => xs.length - (intOf i).toNat)
  case atStart => exact ⟨0, Nat.zero_le _, rfl, fun j hj => absurd hj (Nat.not_lt_zero _)⟩
  case round =>
    obtain ⟨k, hk, rfl, hj⟩ := hrel
    by_cases hlt : k < xs.length
    · obtain ⟨b, o, rfl, hc⟩ := h.at hlt
      have c1 := hc k hlt
      clear hc
      cases hv : isVal (nth xs k)
      · have Hv := Lib.hid hv
        clear hv
        go_wp2_with fail
        refine (asB Hv.out (sIsValue_c _ _)).mono ?_
        rintro e w' ⟨rfl, rfl⟩
        go_wp2
        go_ret
        exact ⟨ret_bool (by rw [allF_no hlt (by have := Hv.out; simp [isVal] at this; exact this.2)]), rfl⟩
      · have Hv := Lib.hid hv
        clear hv
        by_cases hb : nth xs k = -1000000000000000
        · have hb' : (nth xs k == -1000000000000000) = true := by simpa using hb
          have Hb := Lib.hid hb
          clear hb
          go_wp2_with fail
          refine (asB Hv.out (sIsValue_c _ _)).mono ?_
          rintro e w' ⟨rfl, rfl⟩
          go_wp2
          go_ret
          exact ⟨ret_bool (by rw [allF_no hlt (by rw [Hb.out]; decide)]), rfl⟩
        · have hb' : (nth xs k == -1000000000000000) = false := by simpa using hb
          have Hb := Lib.hid hb
          clear hb
          go_wp2_with fail
          refine (asB Hv.out (sIsValue_c _ _)).mono ?_
          rintro e w' ⟨rfl, rfl⟩
          go_wp2
          go_round
          case rel => exact ⟨k + 1, by omega, by go_num, fun j h => by
            by_cases e : j = k
            · subst e
              rcases isVal_iff.1 Hv.out with e | e
              · exact absurd e Hb.out
              · exact fin_iff.2 e
            · exact hj.out j (by omega)⟩
          case measure => simp [intOf]; omega
    · go_wp2
      go_ret
      exact ⟨ret_bool (by rw [allF_iff.2 fun i hi => hj.out i (by omega)]), rfl⟩

end Go.Proofs.Ytljchmkoafahgaa
