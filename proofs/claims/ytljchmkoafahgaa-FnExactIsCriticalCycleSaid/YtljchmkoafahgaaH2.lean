/- Contracts of the laws' own helpers over slices of slices. Conditions: the sizes that each states. -/
import Derived.Test.YtljchmkoafahgaaH1
namespace Go.Proofs.Ytljchmkoafahgaa
set_option linter.unusedVariables false
open Go.RowKit

set_option maxHeartbeats 400000 in
theorem toM_c (a : Option Addr) (cap : Nat) (m : List (List Int)) (w : World) (h : MatAt w a m) (hl : m.length ≤ 1048576) (hr : ∀ i, i < m.length → (row m i).length ≤ 1048576) :
    Calls Try.prog 17 #[.slice a m.length cap] w (GivesM w m) := by
  have hmk := run_make_row' (P := Try.prog) 22 32 (.slice none 0 0) 24 Try.underlying22 info_l rfl .i64 .i64 m.length (by omega) (by omega)
  have hE0 := (Ext.refl w).alloc (.cells (madeCells #[.slice none 0 0] m.length) 32)
  have hM0 := Mat.made (B := w.heap.size) w m.length (Nat.le_refl _) (by omega)
  go_enter Try.func17, Try.ntmps17
  go_wp2
  go_loopw [4] (fun i wr => ∃ (k : Nat) (A : Nat → Option Addr) (C : Nat → Nat) (M : List (List Int)), k ≤ m.length ∧ i = .int .i64 k ∧ Ext w wr ∧ Mat wr w.heap.size w.heap.size m.length A C M ∧ Hid (M.length = m.length ∧ ∀ j, j < k → row M j = row m j)) (fun i _ => m.length - (intOf i).toNat)
  case atStart => exact ⟨0, _, _, _, Nat.zero_le _, rfl, hE0, hM0, by simp, fun j hj => absurd hj (Nat.not_lt_zero _)⟩
  case round =>
    obtain ⟨k, A, C, M, hk, rfl, hE, hM, hj⟩ := hrel
    clear hE0 hM0 hmk
    by_cases hlt : k < m.length
    · have hkM : k < M.length := by rw [hj.out.1]; exact hlt
      obtain ⟨b, o, rfl, hc⟩ := (h.mono hE).at hlt
      obtain ⟨ai, ci, c1, hai, _⟩ := hc k hlt
      clear hc
      go_wp2_with fail
      refine (toI_c _ _ _ _ hai (hr k hlt)).mono ?_
      rintro e w2 ⟨a2, cap2, rfl, hO, hE2⟩
      have c2 := (hM.ext hE2).cell hkM
      have c3 := (hM.ext hE2).frozen k
      have c4 := hE2.cell c1
      clear c1
      go_wp2
      go_roundw
      case rel =>
        refine ⟨k + 1, _, _, _, by omega, by go_num, (hE.trans hE2).set (Nat.le_refl _) _, (hM.ext hE2).setRow hkM hE2.size hM.lt (fun i r o hi hA => ?_) hO hE.size, ?_, fun j h => ?_⟩
        · have := hM.own i hi
          rw [hA] at this
          exact (this.lt (k := r) rfl).2
        · simpa using hj.out.1
        · rw [row_set _ _ _ _ hkM]
          by_cases e : j = k
          · subst e; simp
          · rw [if_neg e]; exact hj.out.2 j (by omega)
      case measure => simp [intOf]; omega
    · obtain rfl : k = m.length := by omega
      go_wp2
      go_ret
      have e : M = m := list_ext_row hj.out.1 fun i hi => hj.out.2 i (by rw [← hj.out.1]; exact hi)
      subst e
      exact ⟨_, _, rfl, .inr ⟨_, _, _, _, rfl, hM⟩, hE⟩

set_option maxHeartbeats 400000 in
theorem eqM_c (a b : Option Addr) (ca cb : Nat) (xs ys : List (List Int)) (w : World) (ha : MatAt w a xs) (hb : MatAt w b ys) :
    Calls Try.prog 20 #[.slice a xs.length ca, .slice b ys.length cb] w fun e w' => e = .returned (.bool (decide (xs = ys))) ∧ Qt w w' := by
  have hla := ha.len
  have hlb := hb.len
  go_enter Try.func20, Try.ntmps20
  go_wp2
  · have hl := ne_len (by assumption)
    go_ret
    exact ⟨ret_bool (by rw [decide_eq_false (fun h => hl (by rw [h]))]), Qt.refl _⟩
  · have hl : Hid (xs.length = ys.length) := eq_len (by assumption)
    go_loopw [5] (fun i wr => ∃ k : Nat, k ≤ xs.length ∧ i = .int .i64 k ∧ Qt w wr ∧ Hid (∀ j, j < k → row xs j = row ys j)) (fun i _ => xs.length - (intOf i).toNat)
    case atStart => exact ⟨0, Nat.zero_le _, rfl, Qt.refl _, fun j hj => absurd hj (Nat.not_lt_zero _)⟩
    case round =>
      obtain ⟨k, hk, rfl, hq, hj⟩ := hrel
      by_cases hlt : k < xs.length
      · obtain ⟨b1, o1, rfl, hc1⟩ := (ha.qt hq).at hlt
        have hlt2 : k < ys.length := by have := hl.out; omega
        obtain ⟨b2, o2, rfl, hc2⟩ := (hb.qt hq).at hlt2
        obtain ⟨a1, i1, d1, g1, _⟩ := hc1 k hlt
        obtain ⟨a2, i2, d2, g2, _⟩ := hc2 k hlt2
        clear hc1 hc2
        by_cases he : row xs k = row ys k
        · have He := Lib.hid he
          clear he
          go_wp2_with fail
          go_big_quiet ((go_at_call 24; exact quiet_call (asB (decide_eq_true He.out) (eqI_c _ _ _ _ _ _ _ (g1.qt ⟨_, rfl⟩) (g2.qt ⟨_, rfl⟩)))))
          go_wp2
          go_roundw
          case rel => exact ⟨k + 1, by omega, by go_num, hq.drewN _, fun j h => by
            by_cases e : j = k
            · subst e; exact He.out
            · exact hj.out j (by omega)⟩
          case measure => simp [intOf]; omega
        · have He := Lib.hid he
          clear he
          go_wp2_with fail
          go_big_quiet ((go_at_call 24; exact quiet_call (asB (decide_eq_false He.out) (eqI_c _ _ _ _ _ _ _ (g1.qt ⟨_, rfl⟩) (g2.qt ⟨_, rfl⟩)))))
          go_wp2
          go_ret
          exact ⟨ret_bool (by rw [decide_eq_false (fun h => He.out (by rw [h]))]), hq.drewN _⟩
      · go_wp2
        go_ret
        exact ⟨ret_bool (by rw [decide_eq_true (list_ext_row hl.out (fun i hi => hj.out i (by omega)))]), hq⟩

theorem markM_nil {S : Nat → Prop} (k : Int) (w : World) :
    Calls Try.prog 29 #[.slice none 0 0, .int .i64 k] w fun e w' => e = .returned (.int .i64 (k + tot [])) ∧ Chg S w w' := by
  go_enter Try.func29, Try.ntmps29
  go_wp2
  go_loop [1, 5] (fun s i => s = .int .i64 k ∧ i = .int .i64 0) (fun _ _ => 0)
  case atStart => exact ⟨rfl, rfl⟩
  case round =>
    obtain ⟨rfl, rfl⟩ := hrel
    go_wp2
    go_ret
    exact ⟨ret_int (by simp [tot]), Chg.refl _ _⟩
set_option maxHeartbeats 400000 in
theorem markM_mat (B T g cap : Nat) (A : Nat → Option Addr) (C : Nat → Nat) (m : List (List Int)) (k : Int) (w : World) (hM0 : Mat w B g cap A C m) (hr : ∀ i r o, i < m.length → A i = some ⟨r, o, none⟩ → B ≤ r ∧ r < T) (hk1 : 0 ≤ k) (hk2 : k + tot m ≤ 4000000000000000000) :
    Calls Try.prog 29 #[.slice (some ⟨g, 0, none⟩) m.length cap, .int .i64 k] w fun e w' => e = .returned (.int .i64 (k + tot m)) ∧ Mat w' B g cap A C (markM m k) ∧ Chg (fun b => B ≤ b ∧ b < T) w w' := by
  have hlen : m.length ≤ 9223372036854775807 := Nat.le_trans hM0.le hM0.mx
  go_enter Try.func29, Try.ntmps29
  go_wp2
  go_loopw [1, 5] (fun s i wr => ∃ (t : Nat) (M : List (List Int)), t ≤ m.length ∧ i = .int .i64 t ∧ s = .int .i64 (k + tot (m.take t)) ∧ Mat wr B g cap A C M ∧ Hid (M.length = m.length ∧ (∀ j, j < t → row M j = row (markM m k) j) ∧ ∀ j, t ≤ j → row M j = row m j) ∧ Chg (fun b => B ≤ b ∧ b < T) w wr) (fun _ i _ => m.length - (intOf i).toNat)
  case atStart => exact ⟨0, m, Nat.zero_le _, rfl, by simp [tot], hM0, ⟨rfl, fun j hj => absurd hj (Nat.not_lt_zero _), fun _ _ => rfl⟩, Chg.refl _ _⟩
  case round =>
    obtain ⟨t, M, ht, rfl, rfl, hM, hj, hC⟩ := hrel
    by_cases hlt : t < m.length
    · have htM : t < M.length := by rw [hj.out.1]; exact hlt
      have c1 := hM.cell htM
      have ho := hM.own t htM
      have hts := tot_take_succ m t hlt
      have htl := tot_take_le m (t + 1)
      have hrow : row M t = row m t := hj.out.2.2 t (Nat.le_refl _)
      rw [hrow] at c1 ho
      have Hts := Lib.hid hts
      have Hrow := Lib.hid hrow
      have hbd : k + (tot (m.take t) : Int) + ((row m t).length : Int) ≤ 4000000000000000000 := by omega
      have hbd2 : 0 ≤ k + (tot (m.take t) : Int) := by omega
      clear hts hrow
      go_wp2_with fail
      refine (markI_c _ _ _ _ _ _ ho hbd2 hbd).mono ?_
      rintro e w2 ⟨rfl, hO2, hC2⟩
      go_wp2
      go_roundw
      case rel =>
        refine ⟨t + 1, M.set t (runI (row m t).length (k + tot (m.take t))), by omega, by go_num, by rw [Hts.out]; congr 1; omega, hM.upd htM (by rw [runI_len, Hrow.out]) (by rw [Hrow.out]; exact hO2) hC2 (fun b e => ⟨0, e⟩), ⟨by simpa using hj.out.1, fun j h => ?_, fun j h => ?_⟩, hC.trans (hC2.mono fun b e => hr t b 0 hlt e)⟩
        · rw [row_set _ _ _ _ htM]
          by_cases e : j = t
          · subst e; rw [if_pos rfl, markM_row hlt]
          · rw [if_neg e]; exact hj.out.2.1 j (by omega)
        · rw [row_set _ _ _ _ htM, if_neg (by omega)]
          exact hj.out.2.2 j (by omega)
      case measure => simp [intOf]; omega
    · obtain rfl : t = m.length := by omega
      go_wp2
      go_ret
      have e : M = markM m k := list_ext_row (by rw [markM_len]; exact hj.out.1) fun i hi => hj.out.2.1 i (by rw [← hj.out.1]; exact hi)
      subst e
      exact ⟨ret_int (by rw [List.take_length]), hM, hC⟩

set_option maxHeartbeats 400000 in
theorem heldM_c (a : Option Addr) (cap : Nat) (m : List (List Int)) (k : Int) (w : World) (h : MatAt w a (markM m k)) (hk1 : 0 ≤ k) (hk2 : k + tot m ≤ 4000000000000000000) :
    Calls Try.prog 30 #[.slice a m.length cap, .int .i64 k] w fun e w' => e = .returned (.int .i64 (k + tot m)) ∧ Qt w w' := by
  have hlen := h.len
  rw [markM_len] at hlen
  go_enter Try.func30, Try.ntmps30
  go_wp2
  go_loopw [1, 5] (fun s i wr => ∃ (t : Nat), t ≤ m.length ∧ i = .int .i64 t ∧ s = .int .i64 (k + tot (m.take t)) ∧ Qt w wr) (fun _ i _ => m.length - (intOf i).toNat)
  case atStart => exact ⟨0, Nat.zero_le _, rfl, by simp [tot], Qt.refl _⟩
  case round =>
    obtain ⟨t, ht, rfl, rfl, hq⟩ := hrel
    by_cases hlt : t < m.length
    · obtain ⟨b, o, rfl, hc⟩ := (h.qt hq).at (i := t) (by rw [markM_len]; exact hlt)
      obtain ⟨ai, ci, c1, hai, _⟩ := hc t (by rw [markM_len]; exact hlt)
      rw [markM_row hlt] at c1 hai
      rw [runI_len] at c1
      have hts := tot_take_succ m t hlt
      have htl := tot_take_le m (t + 1)
      have hbd : k + (tot (m.take t) : Int) + ((row m t).length : Int) ≤ 4000000000000000000 := by omega
      have hbd2 : 0 ≤ k + (tot (m.take t) : Int) := by omega
      have hnn : ¬ (k + (tot (m.take t) : Int) + ((row m t).length : Int) < 0) := by omega
      have Hts := Lib.hid hts
      clear hc hts
      go_wp2_with fail
      refine (heldI_c _ _ _ _ _ hai hbd2 hbd).mono ?_
      rintro e w2 ⟨rfl, hq2⟩
      go_wp2
      go_roundw
      case rel => exact ⟨t + 1, by omega, by go_num, by rw [Hts.out]; congr 1; omega, hq.trans hq2⟩
      case measure => simp [intOf]; omega
    · obtain rfl : t = m.length := by omega
      go_wp2
      go_ret
      exact ⟨ret_int (by rw [List.take_length]), hq⟩

set_option maxHeartbeats 400000 in
theorem szM_c (a : Option Addr) (cap : Nat) (m : List (List Int)) (L : Int) (w : World) (h : MatAt w a m) (hL0 : 0 ≤ L) (hL1 : L ≤ 1048576) :
    Calls Try.prog 15 #[.slice a m.length cap, .int .i64 L] w fun e w' => e = .returned (.int .i64 (if L - m.length - tot m < 0 then -1 else L - m.length - tot m)) ∧ Qt w w' := by
  have hlen := h.len
  by_cases h0 : L - m.length < 0
  · have e : L - m.length - tot m < 0 := by omega
    rw [if_pos e]
    clear e
    go_enter Try.func15, Try.ntmps15
    go_wp2
    go_ret
    exact ⟨rfl, Qt.refl _⟩
  · generalize hR : (if L - m.length - tot m < 0 then (-1 : Int) else L - m.length - tot m) = R
    have HR := Lib.hid hR
    clear hR
    go_enter Try.func15, Try.ntmps15
    go_wp2
    go_loopw [1, 5] (fun s i wr => ∃ (t : Nat), t ≤ m.length ∧ i = .int .i64 t ∧ s = .int .i64 (L - m.length - tot (m.take t)) ∧ 0 ≤ L - m.length - tot (m.take t) ∧ Qt w wr) (fun _ i _ => m.length - (intOf i).toNat)
    case atStart => exact ⟨0, Nat.zero_le _, rfl, by simp [tot], by simp [tot]; omega, Qt.refl _⟩
    case round =>
      obtain ⟨t, ht, rfl, rfl, hnn, hq⟩ := hrel
      by_cases hlt : t < m.length
      · obtain ⟨b, o, rfl, hc⟩ := (h.qt hq).at hlt
        obtain ⟨ai, ci, c1, hai, _⟩ := hc t hlt
        have hts := tot_take_succ m t hlt
        have htl := tot_take_le m (t + 1)
        have hrl := hai.len
        have Hts := Lib.hid hts
        clear hc
        by_cases hs : L - m.length - tot (m.take t) - (row m t).length < 0
        · have e : L - m.length - tot m < 0 := by omega
          have He := Lib.hid e
          clear hts e
          go_wp2_with fail
          refine (szI_c _ _ _ _ _ hrl (by omega)).mono ?_
          rintro e w2 ⟨rfl, rfl⟩
          rw [if_pos hs]
          go_wp2
          go_ret
          exact ⟨ret_int (by rw [← HR.out, if_pos He.out]), hq⟩
        · clear hts
          go_wp2_with fail
          refine (szI_c _ _ _ _ _ hrl (by omega)).mono ?_
          rintro e w2 ⟨rfl, rfl⟩
          rw [if_neg (Int.not_lt.2 hs)]
          go_wp2
          go_roundw
          case rel =>
            have := Hts.out
            exact ⟨t + 1, by omega, by go_num, by rw [this]; congr 1; omega, by omega, hq⟩
          case measure => simp [intOf]; omega
      · obtain rfl : t = m.length := by omega
        rw [List.take_length] at hnn
        go_wp2
        go_ret
        exact ⟨ret_int (by rw [← HR.out, List.take_length, if_neg (by omega)]), hq⟩

end Go.Proofs.Ytljchmkoafahgaa
