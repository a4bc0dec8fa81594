/- Contracts of the laws' own helpers over slices. Conditions: the sizes that each states. -/
import Derived.Test.YtljchmkoafahgaaB2
import Derived.Test.YtljchmkoafahgaaP2
namespace Go.Proofs.Ytljchmkoafahgaa
set_option linter.unusedVariables false
open Go.RowKit

set_option maxHeartbeats 400000 in
theorem toI_c (a : Option Addr) (cap : Nat) (xs : List Int) (w : World) (h : IntsAt w a xs) (hl : xs.length ≤ 1048576) :
    Calls Try.prog 22 #[.slice a xs.length cap] w (GivesI w xs) := by
  have hmk := run_make_row' (P := Try.prog) 32 2 (.int .i64 0) 8 Try.underlying32 info_i rfl .i64 .i64 xs.length (by omega) (by omega)
  have hE0 := (Ext.refl w).alloc (.cells (madeCells #[.int .i64 0] xs.length) 2)
  have hR0 := World.rowIs_made w (.int .i64 0) xs.length 2
  go_enter Try.func22, Try.ntmps22
  go_wp2
  go_loopw [4] (fun i wr => ∃ k : Nat, k ≤ xs.length ∧ i = .int .i64 k ∧ Ext w wr ∧ wr.rowIs w.heap.size 2 xs.length (fun j => .int .i64 (if j < k then nth xs j else 0))) (fun i _ => xs.length - (intOf i).toNat)
  case atStart => exact ⟨0, Nat.zero_le _, rfl, hE0, hR0⟩
  case round =>
    obtain ⟨k, hk, rfl, hE, hR⟩ := hrel
    clear hE0 hR0 hmk
    by_cases hlt : k < xs.length
    · obtain ⟨b, o, rfl, hc⟩ := (h.mono hE).at hlt
      have c1 := hc k hlt
      have c2 : wr.cell? ⟨w.heap.size, k, none⟩ = some (.int .i64 0) := by simpa using hR.cell hlt
      have c3 := hR.frozen k
      clear hc
      go_wp2
      go_roundw
      case rel => exact ⟨k + 1, by omega, by go_num, hE.set (Nat.le_refl _) _, (hR.set k _).congr fun j hj => by
        by_cases e : j = k
        · subst e; simp
        · simp only [if_neg e]; congr 2; simp; omega⟩
      case measure => simp [intOf]; omega
    · obtain rfl : k = xs.length := by omega
      go_wp2
      go_ret
      exact ⟨_, _, rfl, OwnI.of_row (hR.congr fun j hj => by simp [hj]) rfl (Nat.le_refl _) (by omega), hE⟩

set_option maxHeartbeats 400000 in
theorem eqI_c (a b : Option Addr) (ca cb : Nat) (xs ys : List Int) (w : World) (ha : IntsAt w a xs) (hb : IntsAt w b ys) :
    Calls Try.prog 24 #[.slice a xs.length ca, .slice b ys.length cb] w fun e w' => e = .returned (.bool (decide (xs = ys))) ∧ Qt w w' := by
  have hla := ha.len
  have hlb := hb.len
  go_enter Try.func24, Try.ntmps24
  go_wp2
  · have hl := ne_len (by assumption)
    go_ret
    exact ⟨ret_bool (by rw [decide_eq_false (fun h => hl (by rw [h]))]), Qt.refl _⟩
  · have hl : Hid (xs.length = ys.length) := eq_len (by assumption)
    go_loopw [5] (fun i wr => ∃ k : Nat, k ≤ xs.length ∧ i = .int .i64 k ∧ Qt w wr ∧ Hid (∀ j, j < k → nth xs j = nth ys j)) (fun i _ => xs.length - (intOf i).toNat)
    case atStart => exact ⟨0, Nat.zero_le _, rfl, Qt.refl _, fun j hj => absurd hj (Nat.not_lt_zero _)⟩
    case round =>
      obtain ⟨k, hk, rfl, hq, hj⟩ := hrel
      by_cases hlt : k < xs.length
      · obtain ⟨b1, o1, rfl, hc1⟩ := (ha.qt hq).at hlt
        have hlt2 : k < ys.length := by have := hl.out; omega
        obtain ⟨b2, o2, rfl, hc2⟩ := (hb.qt hq).at hlt2
        have d1 := hc1 k hlt
        have d2 := hc2 k hlt2
        clear hc1 hc2
        go_wp2_with fail
        go_big_quiet (fail)
        go_wp2
        · have hne : (nth xs k != nth ys k) = true := by assumption
          go_ret
          exact ⟨ret_bool (by rw [decide_eq_false (fun h => by rw [h] at hne; simp at hne)]), hq.drewN _⟩
        · have he : (nth xs k != nth ys k) = false := by assumption
          have he' := bne_eq_false_iff_eq.1 he
          have He := Lib.hid he'
          clear he'
          go_roundw
          case rel => exact ⟨k + 1, by omega, by go_num, hq.drewN _, fun j h => by
            by_cases e : j = k
            · subst e; exact He.out
            · exact hj.out j (by omega)⟩
          case measure => simp [intOf]; omega
      · go_wp2
        go_ret
        exact ⟨ret_bool (by rw [decide_eq_true (list_ext_nth hl.out (fun i hi => hj.out i (by omega)))]), hq⟩

set_option maxHeartbeats 400000 in
theorem markI_c (B cap : Nat) (a : Option Addr) (xs : List Int) (k : Int) (w : World) (h : OwnI w B (.slice a xs.length cap) xs) (hk1 : 0 ≤ k) (hk2 : k + xs.length ≤ 4000000000000000000) :
    Calls Try.prog 59 #[.slice a xs.length cap, .int .i64 k] w fun e w' => e = .returned (.int .i64 (k + xs.length)) ∧ OwnI w' B (.slice a xs.length cap) (runI xs.length k) ∧ Chg (fun b => a = some ⟨b, 0, none⟩) w w' := by
  go_enter Try.func59, Try.ntmps59
  go_wp2
  go_loopw [1, 5] (fun s i wr => ∃ (t : Nat) (ys : List Int), t ≤ xs.length ∧ i = .int .i64 t ∧ s = .int .i64 (k + t) ∧ OwnI wr B (.slice a xs.length cap) ys ∧ Hid (∀ j, j < t → nth ys j = k + j) ∧ Chg (fun b => a = some ⟨b, 0, none⟩) w wr) (fun _ i _ => xs.length - (intOf i).toNat)
  case atStart => exact ⟨0, xs, Nat.zero_le _, rfl, by simp, h, fun j hj => absurd hj (Nat.not_lt_zero _), Chg.refl _ _⟩
  case round =>
    obtain ⟨t, ys, ht, rfl, rfl, hO, hj, hC⟩ := hrel
    clear h
    have hl := Lib.hid hO.len
    by_cases hlt : t < xs.length
    · obtain ⟨g, rfl, hB, hg, hc, hf⟩ := hO.open (by omega)
      have c1 := hc t hlt
      have c2 := hf t
      clear hc hf
      go_wp2
      go_roundw
      case rel => exact ⟨t + 1, ys.set t (k + t), by omega, by go_num, by congr 1; omega, (by
          have e : xs.length = ys.length := hl.out
          rw [e] at hO ⊢
          exact hO.set t _), (fun j h => by
          have e : xs.length = ys.length := hl.out
          by_cases e' : j = t
          · subst e'; simp [nth, show j < ys.length by omega]
          · have := hj.out j (by omega)
            simp only [nth, List.getD_eq_getElem?_getD, List.getElem?_set_ne (Ne.symm e')] at this ⊢
            exact this), hC.trans ((Chg.set _ _ _).mono fun b e => by subst e; rfl)⟩
      case measure => simp [intOf]; omega
    · obtain rfl : t = xs.length := by omega
      go_wp2
      go_ret
      refine ⟨rfl, ?_, hC⟩
      have e : ys = runI xs.length k := list_ext_nth (by rw [runI_len]; exact hl.out.symm) fun j h => by
        have e : xs.length = ys.length := hl.out
        rw [runI_nth (by omega)]; exact hj.out j (by omega)
      rw [← e]; exact hO

set_option maxHeartbeats 400000 in
theorem heldI_c (a : Option Addr) (cap n : Nat) (k : Int) (w : World) (h : IntsAt w a (runI n k)) (hk1 : 0 ≤ k) (hk2 : k + n ≤ 4000000000000000000) :
    Calls Try.prog 60 #[.slice a n cap, .int .i64 k] w fun e w' => e = .returned (.int .i64 (k + n)) ∧ Qt w w' := by
  go_enter Try.func60, Try.ntmps60
  go_wp2
  go_loopw [1, 5] (fun s i wr => ∃ (t : Nat), t ≤ n ∧ i = .int .i64 t ∧ s = .int .i64 (k + t) ∧ Qt w wr) (fun _ i _ => n - (intOf i).toNat)
  case atStart => exact ⟨0, Nat.zero_le _, rfl, by simp, Qt.refl _⟩
  case round =>
    obtain ⟨t, ht, rfl, rfl, hq⟩ := hrel
    by_cases hlt : t < n
    · obtain ⟨b, o, rfl, hc⟩ := (h.qt hq).at (i := t) (by rw [runI_len]; exact hlt)
      have c1 := hc t (by rw [runI_len]; exact hlt)
      rw [runI_nth hlt] at c1
      clear hc
      have hne : (k + (t : Int) != k + t) = false := by simp
      go_wp2
      go_roundw
      case rel => exact ⟨t + 1, by omega, by go_num, by congr 1; omega, hq⟩
      case measure => simp [intOf]; omega
    · obtain rfl : t = n := by omega
      go_wp2
      go_ret
      exact ⟨rfl, hq⟩

theorem szI_c (a : Option Addr) (cap : Nat) (n : Nat) (left : Int) (w : World) (hn : n ≤ 9223372036854775807) (h : 0 ≤ left ∧ left ≤ 1048576) :
    Calls Try.prog 61 #[.slice a n cap, .int .i64 left] w fun e w' => e = .returned (.int .i64 (if left - n < 0 then -1 else left - n)) ∧ w = w' := by
  go_enter Try.func61, Try.ntmps61
  go_wp2
  all_goals go_ret
  all_goals exact ⟨ret_int (by first | rfl | (split <;> omega)), rfl⟩

end Go.Proofs.Ytljchmkoafahgaa
