/- Several texts in one: M1 M2 M3 M4 M5. -/
import Derived.Test.YtkipbfjkcdccjaaGreatDoorGB
import Derived.Test.YtkipbfjkcdccjaaGreatDoorGP
import Derived.Test.YtkipbfjkcdccjaaGreatDoorGS
/- Contracts of the functions over one list of integers that only read. No condition but the sizes. -/
namespace Go.Proofs.YtkipbfjkcdccjaaGreatDoor
set_option linter.unusedVariables false
open Go.RowKit

theorem areValuesF_c (n : Int) (w : World) : Calls Tryz.prog 42 #[.int .i64 n] w fun e w' => e = .returned (.bool (!isVal n)) ∧ w = w' := by
  go_enter Tryz.func42, Tryz.ntmps42
  go_wp2_with (go_at_call 43; refine (isValue_c _ _).mono ?_; rintro e w' ⟨rfl, rfl⟩)
  go_ret
  exact ⟨rfl, rfl⟩

theorem indexNV_c (a : Option Addr) (cap : Nat) (xs : List Int) (w : World) (h : IntsAt w a xs) :
    Calls Tryz.prog 58 #[.slice a xs.length cap, .func (.func 42) #[] #[]] w fun e w' => ∃ r : Int, e = .returned (.int .i64 r) ∧ decide (0 ≤ r) = (!allV xs) ∧ w = w' := by
  have hlen := h.len
  go_enter Tryz.func58, Tryz.ntmps58
  go_wp2
  go_loop [8] (fun i => ∃ k : Nat, k ≤ xs.length ∧ i = .int .i64 k ∧ Hid (∀ j, j < k → isVal (nth xs j) = true)) (fun i => xs.length - (intOf i).toNat)
  case atStart => exact ⟨0, Nat.zero_le _, rfl, fun j hj => absurd hj (Nat.not_lt_zero _)⟩
  case round =>
    obtain ⟨k, hk, rfl, hj⟩ := hrel
    by_cases hlt : k < xs.length
    · obtain ⟨b, o, rfl, hc⟩ := h.at hlt
      have c1 := hc k hlt
      clear hc
      cases hv : isVal (nth xs k)
      · have Hv := Lib.hid hv
        have hn : (!isVal (nth xs k)) = true := by rw [hv]; rfl
        clear hv
        go_wp2_with fail
        refine (asB hn (areValuesF_c _ _)).mono ?_
        rintro e w' ⟨rfl, rfl⟩
        go_wp2
        go_ret
        exact ⟨k, rfl, by rw [allV_no hlt Hv.out]; simp, rfl⟩
      · have Hv := Lib.hid hv
        have hn : (!isVal (nth xs k)) = false := by rw [hv]; rfl
        clear hv
        go_wp2_with fail
        refine (asB hn (areValuesF_c _ _)).mono ?_
        rintro e w' ⟨rfl, rfl⟩
        go_wp2
        go_round
        case rel => exact ⟨k + 1, by omega, by go_num, fun j h => by
          by_cases e : j = k
          · subst e; exact Hv.out
          · exact hj.out j (by omega)⟩
        case measure => simp [intOf]; omega
    · go_wp2
      go_ret
      exact ⟨-1, rfl, by rw [allV_iff.2 fun i hi => hj.out i (by omega)]; rfl, rfl⟩

theorem areValues_c (a : Option Addr) (cap : Nat) (xs : List Int) (w : World) (h : IntsAt w a xs) :
    Calls Tryz.prog 29 #[.slice a xs.length cap] w fun e w' => e = .returned (.bool (allV xs)) ∧ w = w' := by
  have hC : Calls Tryz.prog 41 #[.slice a xs.length cap, .func (.func 42) #[] #[]] w fun e w' => e = .returned (.bool (!allV xs)) ∧ w = w' := by
    go_enter Tryz.func41, Tryz.ntmps41
    go_wp2_with fail
    refine (indexNV_c _ _ _ _ h).mono ?_
    rintro e w' ⟨r, rfl, hr, rfl⟩
    have Hr := Lib.hid hr
    clear hr
    go_wp2
    go_ret
    exact ⟨ret_bool Hr.out, rfl⟩
  have HC := Lib.hid hC
  clear hC
  go_enter Tryz.func29, Tryz.ntmps29
  go_wp2_with fail
  refine HC.out.mono ?_
  rintro e w' ⟨rfl, rfl⟩
  go_wp2
  go_ret
  exact ⟨ret_bool (by simp), rfl⟩

theorem l01All_c (a : Option Addr) (cap : Nat) (xs : List Int) (w : World) (h : IntsAt w a xs) :
    Calls Tryz.prog 56 #[.slice a xs.length cap, .bool false] w fun e w' => e = .returned (.bool (allV xs)) ∧ w = w' := by
  have hlen := h.len
  go_enter Tryz.func56, Tryz.ntmps56
  go_wp2
  go_loop [5] (fun i => ∃ k : Nat, k ≤ xs.length ∧ i = .int .i64 k ∧ Hid (∀ j, j < k → isVal (nth xs j) = true)) (fun i => xs.length - (intOf i).toNat)
  case atStart => exact ⟨0, Nat.zero_le _, rfl, fun j hj => absurd hj (Nat.not_lt_zero _)⟩
  case round =>
    obtain ⟨k, hk, rfl, hj⟩ := hrel
    by_cases hlt : k < xs.length
    · obtain ⟨b, o, rfl, hc⟩ := h.at hlt
      have c1 := hc k hlt
      clear hc
      cases hv : isVal (nth xs k)
      · have Hv := Lib.hid hv
        clear hv
        go_wp2_with fail
        refine (asB Hv.out (sIsValue_c _ _)).mono ?_
        rintro e w' ⟨rfl, rfl⟩
        go_wp2
        go_ret
        exact ⟨ret_bool (by rw [allV_no hlt Hv.out]), rfl⟩
      · have Hv := Lib.hid hv
        clear hv
        go_wp2_with fail
        refine (asB Hv.out (sIsValue_c _ _)).mono ?_
        rintro e w' ⟨rfl, rfl⟩
        go_wp2
        go_round
        case rel => exact ⟨k + 1, by omega, by go_num, fun j h => by
          by_cases e : j = k
          · subst e; exact Hv.out
          · exact hj.out j (by omega)⟩
        case measure => simp [intOf]; omega
    · go_wp2
      go_ret
      exact ⟨ret_bool (by rw [allV_iff.2 fun i hi => hj.out i (by omega)]), rfl⟩

theorem l01AllF_c (a : Option Addr) (cap : Nat) (xs : List Int) (w : World) (h : IntsAt w a xs) :
    Calls Tryz.prog 56 #[.slice a xs.length cap, .bool true] w fun e w' => e = .returned (.bool (allF xs)) ∧ w = w' := by
  have hlen := h.len
  go_enter Tryz.func56, Tryz.ntmps56
  go_wp2
  go_loop [5] (fun i => ∃ k : Nat, k ≤ xs.length ∧ i = .int .i64 k ∧ Hid (∀ j, j < k → fin (nth xs j) = true)) (fun i => xs.length - (intOf i).toNat)
  case atStart => exact ⟨0, Nat.zero_le _, rfl, fun j hj => absurd hj (Nat.not_lt_zero _)⟩
  case round =>
    obtain ⟨k, hk, rfl, hj⟩ := hrel
    by_cases hlt : k < xs.length
    · obtain ⟨b, o, rfl, hc⟩ := h.at hlt
      have c1 := hc k hlt
      clear hc
      cases hv : isVal (nth xs k)
      · have Hv := Lib.hid hv
        clear hv
        go_wp2_with fail
        refine (asB Hv.out (sIsValue_c _ _)).mono ?_
        rintro e w' ⟨rfl, rfl⟩
        go_wp2
        go_ret
        exact ⟨ret_bool (by rw [allF_no hlt (by have := Hv.out; simp [isVal] at this; exact this.2)]), rfl⟩
      · have Hv := Lib.hid hv
        clear hv
        by_cases hb : nth xs k = -1000000000000000
        · have hb' : (nth xs k == -1000000000000000) = true := by simpa using hb
          have Hb := Lib.hid hb
          clear hb
          go_wp2_with fail
          refine (asB Hv.out (sIsValue_c _ _)).mono ?_
          rintro e w' ⟨rfl, rfl⟩
          go_wp2
          go_ret
          exact ⟨ret_bool (by rw [allF_no hlt (by rw [Hb.out]; decide)]), rfl⟩
        · have hb' : (nth xs k == -1000000000000000) = false := by simpa using hb
          have Hb := Lib.hid hb
          clear hb
          go_wp2_with fail
          refine (asB Hv.out (sIsValue_c _ _)).mono ?_
          rintro e w' ⟨rfl, rfl⟩
          go_wp2
          go_round
          case rel => exact ⟨k + 1, by omega, by go_num, fun j h => by
            by_cases e : j = k
            · subst e
              rcases isVal_iff.1 Hv.out with e | e
              · exact absurd e Hb.out
              · exact fin_iff.2 e
            · exact hj.out j (by omega)⟩
          case measure => simp [intOf]; omega
    · go_wp2
      go_ret
      exact ⟨ret_bool (by rw [allF_iff.2 fun i hi => hj.out i (by omega)]), rfl⟩

end Go.Proofs.YtkipbfjkcdccjaaGreatDoor

/- Contracts of the functions that make matrices. -/
namespace Go.Proofs.YtkipbfjkcdccjaaGreatDoor
set_option linter.unusedVariables false
open Go.RowKit

end Go.Proofs.YtkipbfjkcdccjaaGreatDoor

/- Contracts of the functions that make matrices out of entries. Conditions: the forms of the matrices. -/
namespace Go.Proofs.YtkipbfjkcdccjaaGreatDoor
set_option linter.unusedVariables false
open Go.RowKit

end Go.Proofs.YtkipbfjkcdccjaaGreatDoor

/- Contracts of the functions that ask whether lists are matrices. No condition but the sizes. -/
namespace Go.Proofs.YtkipbfjkcdccjaaGreatDoor
set_option linter.unusedVariables false
open Go.RowKit

theorem indexM_c (F : FuncId) (caps : Array Value) (p : List Int → Bool) (a : Option Addr) (cap : Nat) (m : List (List Int)) (w : World) (h : MatAt w a m)
    (hcf : ∀ args w, Sem.run Tryz.prog (callFunc F args) w = .ok (.enter F args) w)
    (hF : ∀ i ai ci, i < m.length → IntsAt w ai (row m i) → Calls Tryz.prog F (#[.slice ai (row m i).length ci] ++ caps) w fun e w' => e = .returned (.bool (p (row m i))) ∧ w = w') :
    Calls Tryz.prog 40 #[.slice a m.length cap, .func (.func F) #[] caps] w fun e w' => ∃ r : Int, e = .returned (.int .i64 r) ∧ decide (0 ≤ r) = m.any p ∧ w = w' := by
  have HF := Lib.hid hF
  clear hF
  have hlen := h.len
  go_enter Tryz.func40, Tryz.ntmps40
  go_wp2
  go_loop [8] (fun i => ∃ k : Nat, k ≤ m.length ∧ i = .int .i64 k ∧ Hid (∀ j, j < k → p (row m j) = false)) (fun i => m.length - (intOf i).toNat)
  case atStart => exact ⟨0, Nat.zero_le _, rfl, fun j hj => absurd hj (Nat.not_lt_zero _)⟩
  case round =>
    obtain ⟨k, hk, rfl, hj⟩ := hrel
    by_cases hlt : k < m.length
    · obtain ⟨b, o, rfl, hc⟩ := h.at hlt
      obtain ⟨ai, ci, c1, hx, _⟩ := hc k hlt
      clear hc
      cases hv : p (row m k)
      · have Hv := Lib.hid hv
        clear hv
        go_wp2_with fail
        refine (asB Hv.out (HF.out k ai ci hlt hx)).mono ?_
        rintro e w' ⟨rfl, rfl⟩
        go_wp2
        go_round
        case rel => exact ⟨k + 1, by omega, by go_num, fun j h => by
          by_cases e : j = k
          · subst e; exact Hv.out
          · exact hj.out j (by omega)⟩
        case measure => simp [intOf]; omega
      · have Hv := Lib.hid hv
        clear hv
        go_wp2_with fail
        refine (asB Hv.out (HF.out k ai ci hlt hx)).mono ?_
        rintro e w' ⟨rfl, rfl⟩
        go_wp2
        go_ret
        exact ⟨k, rfl, by rw [any_iff_row hlt Hv.out]; simp, rfl⟩
    · go_wp2
      go_ret
      exact ⟨-1, rfl, by rw [any_no_row fun i hi => hj.out i (by omega)]; rfl, rfl⟩

theorem containsM_c (F : FuncId) (caps : Array Value) (p : List Int → Bool) (a : Option Addr) (cap : Nat) (m : List (List Int)) (w : World) (h : MatAt w a m)
    (hcf : ∀ args w, Sem.run Tryz.prog (callFunc F args) w = .ok (.enter F args) w)
    (hF : ∀ i ai ci, i < m.length → IntsAt w ai (row m i) → Calls Tryz.prog F (#[.slice ai (row m i).length ci] ++ caps) w fun e w' => e = .returned (.bool (p (row m i))) ∧ w = w') :
    Calls Tryz.prog 27 #[.slice a m.length cap, .func (.func F) #[] caps] w fun e w' => e = .returned (.bool (m.any p)) ∧ w = w' := by
  have H := Lib.hid (indexM_c F caps p a cap m w h hcf hF)
  clear hF hcf
  go_enter Tryz.func27, Tryz.ntmps27
  go_wp2_with fail
  refine H.out.mono ?_
  rintro e w' ⟨r, rfl, hr, rfl⟩
  have Hr := Lib.hid hr
  clear hr
  go_wp2
  go_ret
  exact ⟨ret_bool Hr.out, rfl⟩

theorem isMatF_c (bx : Nat) (a ai : Option Addr) (cap ci : Nat) (m : List (List Int)) (r : List Int) (w : World) (hb : w.cell? ⟨bx, 0, none⟩ = some (.slice a m.length cap)) (hm : MatAt w a m) (h0 : 0 < m.length) (hx : IntsAt w ai r) :
    Calls Tryz.prog 28 #[.slice ai r.length ci, .pointer (some ⟨bx, 0, none⟩)] w fun e w' => e = .returned (.bool (rowBad (row m 0).length r)) ∧ w = w' := by
  obtain ⟨b, o, rfl, hc⟩ := hm.at h0
  obtain ⟨a0, c0, d0, hx0, _⟩ := hc 0 h0
  rw [Nat.add_zero] at d0
  have hz : (0 : Int) < (m.length : Int) := by omega
  clear hc
  have hl0 := hx0.len
  have hl := hx.len
  by_cases hl : r.length = (row m 0).length
  · have hl' : ((r.length : Int) != ((row m 0).length : Int)) = false := by simp [hl]
    have Hl := Lib.hid hl
    clear hl
    go_enter Tryz.func28, Tryz.ntmps28
    go_wp2_with fail
    refine (areValues_c _ _ _ _ hx).mono ?_
    rintro e w' ⟨rfl, rfl⟩
    go_wp2
    go_ret
    exact ⟨ret_bool (by simp [rowBad, Hl.out]), rfl⟩
  · have hl' : ((r.length : Int) != ((row m 0).length : Int)) = true := by simp; omega
    have Hl := Lib.hid hl
    clear hl
    go_enter Tryz.func28, Tryz.ntmps28
    go_wp2
    go_ret
    exact ⟨ret_bool (by have := Hl.out; simp [rowBad, this]), rfl⟩
theorem isMatF_enter (args : Array Value) (w : World) : Sem.run Tryz.prog (callFunc 28 args) w = .ok (.enter 28 args) w := by
  simp [callFunc, Tryz.func28, Tryz.f28]

set_option maxHeartbeats 400000 in
theorem isMatrix_c (a : Option Addr) (cap : Nat) (m : List (List Int)) (w : World) (hm : MatAt w a m) :
    Calls Tryz.prog 14 #[.slice a m.length cap] w fun e w' => e = .returned (.bool (isMat m)) ∧ Ext w w' := by
  obtain ⟨W, hW⟩ : ∃ W, w.alloc (.cells #[.slice a m.length cap] 24) = W := ⟨_, rfl⟩
  have hE : Ext w W := by rw [← hW]; exact (Ext.refl w).alloc _
  have hb : W.cell? ⟨w.heap.size, 0, none⟩ = some (.slice a m.length cap) := by rw [← hW]; simp
  have hm' := hm.mono hE
  have hlen := hm.len
  cases h1 : inR m.length 1 10
  · have e : isMat m = false := by simp [isMat, h1]
    rw [e]
    clear e hm hm'
    go_enter Tryz.func14, Tryz.ntmps14
    go_wp2_with fail
    refine (asB h1 (within_c _ _ _ _)).mono ?_
    rintro e w' ⟨rfl, rfl⟩
    go_wp2
    go_ret
    exact ⟨rfl, hE⟩
  · have h1' := inR_iff.1 h1
    have h0 : 0 < m.length := by omega
    have hz : (0 : Int) < (m.length : Int) := by omega
    have hC := containsM_c 28 #[.pointer (some ⟨w.heap.size, 0, none⟩)] (rowBad (row m 0).length) a cap m W hm' isMatF_enter
      (fun i ai ci hi hx => isMatF_c w.heap.size a ai cap ci m (row m i) W hb hm' h0 hx)
    have HC := Lib.hid hC
    clear hC
    obtain ⟨b, o, rfl, hc⟩ := hm'.at h0
    obtain ⟨a0, c0, d0, hx0, _⟩ := hc 0 h0
    rw [Nat.add_zero] at d0
    clear hc hm hm'
    cases h2 : inR (row m 0).length 1 10
    · have e : isMat m = false := by simp [isMat, h2]
      rw [e]
      clear e hx0
      go_enter Tryz.func14, Tryz.ntmps14
      go_wp2_with fail
      refine (asB h1 (within_c _ _ _ _)).mono ?_
      rintro e w' ⟨rfl, rfl⟩
      go_wp2_with fail
      refine (asB h2 (within_c _ _ _ _)).mono ?_
      rintro e w' ⟨rfl, rfl⟩
      go_wp2
      go_ret
      exact ⟨rfl, hE⟩
    · have e : isMat m = !m.any (rowBad (row m 0).length) := by rw [any_bad]; simp [isMat, h1, h2]
      have He := Lib.hid e
      clear e hx0
      go_enter Tryz.func14, Tryz.ntmps14
      go_wp2_with fail
      refine (asB h1 (within_c _ _ _ _)).mono ?_
      rintro e w' ⟨rfl, rfl⟩
      go_wp2_with fail
      refine (asB h2 (within_c _ _ _ _)).mono ?_
      rintro e w' ⟨rfl, rfl⟩
      go_wp2_with fail
      refine HC.out.mono ?_
      rintro e w' ⟨rfl, rfl⟩
      go_wp2
      go_ret
      exact ⟨ret_bool He.out.symm, hE⟩

end Go.Proofs.YtkipbfjkcdccjaaGreatDoor

/- Contracts of the reference's functions that ask whether lists are matrices, and of impl.isVector. No condition but the sizes. -/
namespace Go.Proofs.YtkipbfjkcdccjaaGreatDoor
set_option linter.unusedVariables false
open Go.RowKit

theorem l02Vector_c (a : Option Addr) (cap : Nat) (x : List Int) (w : World) (hx : IntsAt w a x) :
    Calls Tryz.prog 35 #[.slice a x.length cap] w fun e w' => e = .returned (.bool (isVec x)) ∧ w = w' := by
  have hlen := hx.len
  cases h1 : inR x.length 1 10
  · have e : isVec x = false := by simp [isVec, h1]
    rw [e]; clear e
    go_enter Tryz.func35, Tryz.ntmps35
    go_wp2_with fail
    refine (asB h1 (l01In_c _ _ _ _)).mono ?_
    rintro e w' ⟨rfl, rfl⟩
    go_wp2
    go_ret
    exact ⟨rfl, rfl⟩
  · have e : isVec x = allV x := by simp [isVec, h1]
    rw [e]; clear e
    go_enter Tryz.func35, Tryz.ntmps35
    go_wp2_with fail
    refine (asB h1 (l01In_c _ _ _ _)).mono ?_
    rintro e w' ⟨rfl, rfl⟩
    go_wp2_with fail
    refine (l01All_c _ _ _ _ hx).mono ?_
    rintro e w' ⟨rfl, rfl⟩
    go_wp2
    go_ret
    exact ⟨rfl, rfl⟩

theorem isMat_alt (m : List (List Int)) : isMat m = (inR m.length 1 10 && m.all fun r => isVec r && r.length == (row m 0).length) := by
  unfold isMat
  cases h1 : inR m.length 1 10
  · simp
  · have h0 : 0 < m.length := by have := inR_iff.1 h1; omega
    simp only [Bool.true_and]
    rw [Bool.eq_iff_iff, Bool.and_eq_true, all_iff_row, all_iff_row]
    constructor
    · rintro ⟨h2, h3⟩ i hi
      have := h3 i hi
      simp only [rowOk, Bool.and_eq_true, beq_iff_eq] at this
      simp only [isVec, Bool.and_eq_true, beq_iff_eq]
      exact ⟨⟨by rw [this.1]; exact h2, this.2⟩, this.1⟩
    · intro h
      have h2 := h 0 h0
      simp only [isVec, Bool.and_eq_true, beq_iff_eq] at h2
      refine ⟨h2.1.1, fun i hi => ?_⟩
      have := h i hi
      simp only [isVec, Bool.and_eq_true, beq_iff_eq] at this
      simp only [rowOk, Bool.and_eq_true, beq_iff_eq]
      exact ⟨this.2, this.1.2⟩

set_option maxHeartbeats 400000 in
theorem sIsMatrix_c (a : Option Addr) (cap : Nat) (m : List (List Int)) (w : World) (hm : MatAt w a m) :
    Calls Tryz.prog 22 #[.slice a m.length cap] w fun e w' => e = .returned (.bool (isMat m)) ∧ Qt w w' := by
  have hlen := hm.len
  cases h1 : inR m.length 1 10
  · have e : isMat m = false := by simp [isMat, h1]
    rw [e]; clear e
    have h1' := inR_not.1 h1
    have h1'' : m.length < 1 ∨ 10 < m.length := by omega
    clear h1
    rcases h1'' with h | h
    · go_enter Tryz.func22, Tryz.ntmps22
      go_wp2
      go_ret
      exact ⟨rfl, Qt.refl _⟩
    · go_enter Tryz.func22, Tryz.ntmps22
      go_wp2
      go_ret
      exact ⟨rfl, Qt.refl _⟩
  · have h1' := inR_iff.1 h1
    have hlo : 1 ≤ m.length := by omega
    have hhi : m.length ≤ 10 := by omega
    have e : isMat m = m.all fun r => isVec r && r.length == (row m 0).length := by rw [isMat_alt, h1]; simp
    have He := Lib.hid e
    clear e h1 h1'
    go_enter Tryz.func22, Tryz.ntmps22
    go_wp2
    go_loopw [3] (fun i wr => ∃ k : Nat, k ≤ m.length ∧ i = .int .i64 k ∧ Qt w wr ∧ Hid (∀ j, j < k → (isVec (row m j) && (row m j).length == (row m 0).length) = true)) (fun i _ => m.length - (intOf i).toNat)
    case atStart => exact ⟨0, Nat.zero_le _, rfl, Qt.refl _, fun j hj => absurd hj (Nat.not_lt_zero _)⟩
    case round =>
      obtain ⟨k, hk, rfl, hq, hj⟩ := hrel
      by_cases hlt : k < m.length
      · obtain ⟨b, o, rfl, hc⟩ := (hm.qt hq).at hlt
        obtain ⟨ai, ci, c1, hx, _⟩ := hc k hlt
        obtain ⟨a0, c0, d0, hx0, _⟩ := hc 0 (by omega)
        rw [Nat.add_zero] at d0
        have hz : (0 : Int) < (m.length : Int) := by omega
        clear hc
        cases hv : isVec (row m k)
        · have Hv := Lib.hid hv
          clear hv
          go_wp2_with fail
          go_big_quiet ((go_at_call 35; exact quiet_pure (asB Hv.out (l02Vector_c _ _ _ _ (hx.qt ⟨_, rfl⟩)))))
          go_wp2
          go_ret
          exact ⟨ret_bool (by rw [He.out, all_no_row hlt]; rw [Hv.out]; rfl), hq.drewN _⟩
        · have Hv := Lib.hid hv
          clear hv
          by_cases hl : (row m k).length = (row m 0).length
          · have hl' : (((row m k).length : Int) != ((row m 0).length : Int)) = false := by simp [hl]
            have Hl := Lib.hid hl
            clear hl
            go_wp2_with fail
            go_big_quiet ((go_at_call 35; exact quiet_pure (asB Hv.out (l02Vector_c _ _ _ _ (hx.qt ⟨_, rfl⟩)))))
            go_wp2
            go_roundw
            case rel => exact ⟨k + 1, by omega, by go_num, hq.drewN _, fun j h => by
              by_cases e : j = k
              · subst e; rw [Hv.out, Hl.out]; simp
              · exact hj.out j (by omega)⟩
            case measure => simp [intOf]; omega
          · have hl' : (((row m k).length : Int) != ((row m 0).length : Int)) = true := by simp; omega
            have Hl := Lib.hid hl
            clear hl
            go_wp2_with fail
            go_big_quiet ((go_at_call 35; exact quiet_pure (asB Hv.out (l02Vector_c _ _ _ _ (hx.qt ⟨_, rfl⟩)))))
            go_wp2
            go_ret
            exact ⟨ret_bool (by have := Hl.out; rw [He.out, all_no_row hlt]; simp [this]), hq.drewN _⟩
      · go_wp2
        go_ret
        exact ⟨ret_bool (by rw [He.out, all_iff_row.2 fun i hi => hj.out i (by omega)]), hq⟩

end Go.Proofs.YtkipbfjkcdccjaaGreatDoor
