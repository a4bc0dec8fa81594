/- Contracts of the functions that ask whether lists are matrices. No condition but the sizes. -/
import Derived.Test.YtljchmkoafahgaaM1
namespace Go.Proofs.Ytljchmkoafahgaa
set_option linter.unusedVariables false
open Go.RowKit

theorem indexM_c (F : FuncId) (caps : Array Value) (p : List Int → Bool) (a : Option Addr) (cap : Nat) (m : List (List Int)) (w : World) (h : MatAt w a m)
    (hcf : ∀ args w, Sem.run Try.prog (callFunc F args) w = .ok (.enter F args) w)
    (hF : ∀ i ai ci, i < m.length → IntsAt w ai (row m i) → Calls Try.prog F (#[.slice ai (row m i).length ci] ++ caps) w fun e w' => e = .returned (.bool (p (row m i))) ∧ w = w') :
    Calls Try.prog 145 #[.slice a m.length cap, .func (.func F) #[] caps] w fun e w' => ∃ r : Int, e = .returned (.int .i64 r) ∧ decide (0 ≤ r) = m.any p ∧ w = w' := by
  have HF := Lib.hid hF
  clear hF
  have hlen := h.len
  go_enter Try.func145, Try.ntmps145
  go_wp2
  go_loop [8] (fun i => ∃ k : Nat, k ≤ m.length ∧ i = .int .i64 k ∧ Hid (∀ j, j < k → p (row m j) = false)) (fun i => m.length - (intOf i).toNat)
  case atStart => exact ⟨0, Nat.zero_le _, rfl, fun j hj => absurd hj (Nat.not_lt_zero _)⟩
  case round =>
    obtain ⟨k, hk, rfl, hj⟩ := hrel
    by_cases hlt : k < m.length
    · obtain ⟨b, o, rfl, hc⟩ := h.at hlt
      obtain ⟨ai, ci, c1, hx, _⟩ := hc k hlt
      clear hc
      cases hv : p (row m k)
      · have Hv := Lib.hid hv
        clear hv
        go_wp2_with fail
        refine (asB Hv.out (HF.out k ai ci hlt hx)).mono ?_
        rintro e w' ⟨rfl, rfl⟩
        go_wp2
        go_round
        case rel => exact ⟨k + 1, by omega, by go_num, fun j h => by
          by_cases e : j = k
          · subst e; exact Hv.out
          · exact hj.out j (by omega)⟩
        case measure => simp [intOf]; omega
      · have Hv := Lib.hid hv
        clear hv
        go_wp2_with fail
        refine (asB Hv.out (HF.out k ai ci hlt hx)).mono ?_
        rintro e w' ⟨rfl, rfl⟩
        go_wp2
        go_ret
        exact ⟨k, rfl, by rw [any_iff_row hlt Hv.out]; simp, rfl⟩
    · go_wp2
      go_ret
      exact ⟨-1, rfl, by rw [any_no_row fun i hi => hj.out i (by omega)]; rfl, rfl⟩

theorem containsM_c (F : FuncId) (caps : Array Value) (p : List Int → Bool) (a : Option Addr) (cap : Nat) (m : List (List Int)) (w : World) (h : MatAt w a m)
    (hcf : ∀ args w, Sem.run Try.prog (callFunc F args) w = .ok (.enter F args) w)
    (hF : ∀ i ai ci, i < m.length → IntsAt w ai (row m i) → Calls Try.prog F (#[.slice ai (row m i).length ci] ++ caps) w fun e w' => e = .returned (.bool (p (row m i))) ∧ w = w') :
    Calls Try.prog 108 #[.slice a m.length cap, .func (.func F) #[] caps] w fun e w' => e = .returned (.bool (m.any p)) ∧ w = w' := by
  have H := Lib.hid (indexM_c F caps p a cap m w h hcf hF)
  clear hF hcf
  go_enter Try.func108, Try.ntmps108
  go_wp2_with fail
  refine H.out.mono ?_
  rintro e w' ⟨r, rfl, hr, rfl⟩
  have Hr := Lib.hid hr
  clear hr
  go_wp2
  go_ret
  exact ⟨ret_bool Hr.out, rfl⟩

theorem isMatF_c (bx : Nat) (a ai : Option Addr) (cap ci : Nat) (m : List (List Int)) (r : List Int) (w : World) (hb : w.cell? ⟨bx, 0, none⟩ = some (.slice a m.length cap)) (hm : MatAt w a m) (h0 : 0 < m.length) (hx : IntsAt w ai r) :
    Calls Try.prog 109 #[.slice ai r.length ci, .pointer (some ⟨bx, 0, none⟩)] w fun e w' => e = .returned (.bool (rowBad (row m 0).length r)) ∧ w = w' := by
  obtain ⟨b, o, rfl, hc⟩ := hm.at h0
  obtain ⟨a0, c0, d0, hx0, _⟩ := hc 0 h0
  rw [Nat.add_zero] at d0
  have hz : (0 : Int) < (m.length : Int) := by omega
  clear hc
  have hl0 := hx0.len
  have hl := hx.len
  by_cases hl : r.length = (row m 0).length
  · have hl' : ((r.length : Int) != ((row m 0).length : Int)) = false := by simp [hl]
    have Hl := Lib.hid hl
    clear hl
    go_enter Try.func109, Try.ntmps109
    go_wp2_with fail
    refine (areValues_c _ _ _ _ hx).mono ?_
    rintro e w' ⟨rfl, rfl⟩
    go_wp2
    go_ret
    exact ⟨ret_bool (by simp [rowBad, Hl.out]), rfl⟩
  · have hl' : ((r.length : Int) != ((row m 0).length : Int)) = true := by simp; omega
    have Hl := Lib.hid hl
    clear hl
    go_enter Try.func109, Try.ntmps109
    go_wp2
    go_ret
    exact ⟨ret_bool (by have := Hl.out; simp [rowBad, this]), rfl⟩
theorem isMatF_enter (args : Array Value) (w : World) : Sem.run Try.prog (callFunc 109 args) w = .ok (.enter 109 args) w := by
  simp [callFunc, Try.func109, Try.f109]

set_option maxHeartbeats 400000 in
theorem isMatrix_c (a : Option Addr) (cap : Nat) (m : List (List Int)) (w : World) (hm : MatAt w a m) :
    Calls Try.prog 51 #[.slice a m.length cap] w fun e w' => e = .returned (.bool (isMat m)) ∧ Ext w w' := by
  obtain ⟨W, hW⟩ : ∃ W, w.alloc (.cells #[.slice a m.length cap] 22) = W := ⟨_, rfl⟩
  have hE : Ext w W := by rw [← hW]; exact (Ext.refl w).alloc _
  have hb : W.cell? ⟨w.heap.size, 0, none⟩ = some (.slice a m.length cap) := by rw [← hW]; simp
  have hm' := hm.mono hE
  have hlen := hm.len
  cases h1 : inR m.length 1 10
  · have e : isMat m = false := by simp [isMat, h1]
    rw [e]
    clear e hm hm'
    go_enter Try.func51, Try.ntmps51
    go_wp2_with fail
    refine (asB h1 (within_c _ _ _ _)).mono ?_
    rintro e w' ⟨rfl, rfl⟩
    go_wp2
    go_ret
    exact ⟨rfl, hE⟩
  · have h1' := inR_iff.1 h1
    have h0 : 0 < m.length := by omega
    have hz : (0 : Int) < (m.length : Int) := by omega
    have hC := containsM_c 109 #[.pointer (some ⟨w.heap.size, 0, none⟩)] (rowBad (row m 0).length) a cap m W hm' isMatF_enter
      (fun i ai ci hi hx => isMatF_c w.heap.size a ai cap ci m (row m i) W hb hm' h0 hx)
    have HC := Lib.hid hC
    clear hC
    obtain ⟨b, o, rfl, hc⟩ := hm'.at h0
    obtain ⟨a0, c0, d0, hx0, _⟩ := hc 0 h0
    rw [Nat.add_zero] at d0
    clear hc hm hm'
    cases h2 : inR (row m 0).length 1 10
    · have e : isMat m = false := by simp [isMat, h2]
      rw [e]
      clear e hx0
      go_enter Try.func51, Try.ntmps51
      go_wp2_with fail
      refine (asB h1 (within_c _ _ _ _)).mono ?_
      rintro e w' ⟨rfl, rfl⟩
      go_wp2_with fail
      refine (asB h2 (within_c _ _ _ _)).mono ?_
      rintro e w' ⟨rfl, rfl⟩
      go_wp2
      go_ret
      exact ⟨rfl, hE⟩
    · have e : isMat m = !m.any (rowBad (row m 0).length) := by rw [any_bad]; simp [isMat, h1, h2]
      have He := Lib.hid e
      clear e hx0
      go_enter Try.func51, Try.ntmps51
      go_wp2_with fail
      refine (asB h1 (within_c _ _ _ _)).mono ?_
      rintro e w' ⟨rfl, rfl⟩
      go_wp2_with fail
      refine (asB h2 (within_c _ _ _ _)).mono ?_
      rintro e w' ⟨rfl, rfl⟩
      go_wp2_with fail
      refine HC.out.mono ?_
      rintro e w' ⟨rfl, rfl⟩
      go_wp2
      go_ret
      exact ⟨ret_bool He.out.symm, hE⟩

theorem isSquare_c (a : Option Addr) (cap : Nat) (m : List (List Int)) (w : World) (hm : MatAt w a m) :
    Calls Try.prog 66 #[.slice a m.length cap] w fun e w' => e = .returned (.bool (isSq m)) ∧ Ext w w' := by
  cases h1 : isMat m
  · have e : isSq m = false := by simp [isSq, h1]
    rw [e]
    clear e
    go_enter Try.func66, Try.ntmps66
    go_wp2_with fail
    refine (asB h1 (isMatrix_c _ _ _ _ hm)).mono ?_
    rintro e w' ⟨rfl, hE⟩
    go_wp2
    go_ret
    exact ⟨rfl, hE⟩
  · have hr := isMat_rect h1
    obtain ⟨hr1, hr2, hr3, hr4, hr5⟩ := hr
    have e : isSq m = decide ((m.length : Int) = ((row m 0).length : Int)) := by
      simp only [isSq, h1, Bool.true_and]; rw [Bool.eq_iff_iff]; simp; omega
    have He := Lib.hid e
    have hz : (0 : Int) < (m.length : Int) := by omega
    clear e hr1
    go_enter Try.func66, Try.ntmps66
    go_wp2_with fail
    refine (asB h1 (isMatrix_c _ _ _ _ hm)).mono ?_
    rintro e w' ⟨rfl, hE⟩
    obtain ⟨b, o, rfl, hc⟩ := (hm.mono hE).at (i := 0) (by omega)
    obtain ⟨a0, c0, d0, hx0, _⟩ := hc 0 (by omega)
    rw [Nat.add_zero] at d0
    clear hc hx0
    go_wp2
    go_ret
    exact ⟨ret_bool (by rw [He.out]; rfl), hE⟩

theorem chkMF_c (ai : Option Addr) (ci : Nat) (r : List Int) (w : World) (hx : IntsAt w ai r) :
    Calls Try.prog 137 #[.slice ai r.length ci] w fun e w' => e = .returned (.bool (!allV r)) ∧ w = w' := by
  go_enter Try.func137, Try.ntmps137
  go_wp2_with fail
  refine (areValues_c _ _ _ _ hx).mono ?_
  rintro e w' ⟨rfl, rfl⟩
  go_wp2
  go_ret
  exact ⟨rfl, rfl⟩
theorem chkMF_enter (args : Array Value) (w : World) : Sem.run Try.prog (callFunc 137 args) w = .ok (.enter 137 args) w := by
  simp [callFunc, Try.func137, Try.f137]
theorem checkedMatrix_c (a : Option Addr) (cap : Nat) (m : List (List Int)) (w : World) (hm : MatAt w a m) :
    Calls Try.prog 90 #[.slice a m.length cap] w fun e w' => e = .returned (.tuple (if allM m then #[.slice a m.length cap, .int .i64 0] else #[.slice none 0 0, .int .i64 3])) ∧ w = w' := by
  have hC := containsM_c 137 #[] (fun r => !allV r) a cap m w hm chkMF_enter (fun i ai ci hi hx => chkMF_c ai ci (row m i) w hx)
  have e : m.any (fun r => !allV r) = !allM m := by unfold allM; rw [List.all_eq_not_any_not]; simp
  rw [e] at hC
  cases h : allM m
  · have HC := Lib.hid (asB (c := true) (by rw [h]; rfl) hC)
    clear hC e h
    go_enter Try.func90, Try.ntmps90
    go_wp2_with fail
    refine HC.out.mono ?_
    rintro e w' ⟨rfl, rfl⟩
    go_wp2
    go_ret2
    exact ⟨rfl, rfl⟩
  · have HC := Lib.hid (asB (c := false) (by rw [h]; rfl) hC)
    clear hC e h
    go_enter Try.func90, Try.ntmps90
    go_wp2_with fail
    refine HC.out.mono ?_
    rintro e w' ⟨rfl, rfl⟩
    go_wp2
    go_ret2
    exact ⟨rfl, rfl⟩

end Go.Proofs.Ytljchmkoafahgaa
