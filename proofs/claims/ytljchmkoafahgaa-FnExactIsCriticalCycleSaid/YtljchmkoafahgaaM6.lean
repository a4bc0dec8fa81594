/- Contracts of the reference's functions that make lists and matrices. Conditions: the forms and sizes that each states. -/
import Derived.Test.YtljchmkoafahgaaM5
import Derived.Test.YtljchmkoafahgaaB3
import Derived.Test.YtljchmkoafahgaaP3
import Derived.Test.YtljchmkoafahgaaQ
namespace Go.Proofs.Ytljchmkoafahgaa
set_option linter.unusedVariables false
open Go.RowKit

theorem l01Own_c (a : Option Addr) (cap : Nat) (xs : List Int) (w : World) (h : IntsAt w a xs) (hn : a = none → cap = 0) (hl : xs.length ≤ 1000000000) :
    Calls Try.prog 88 #[.slice a xs.length cap] w (GivesI w xs) := by
  have hO := OwnI.empty w w.heap.size (Nat.le_refl _)
  have hE := (Ext.refl w).alloc (.cells #[] 2)
  have hs := hE.size
  have hx := h.mono hE
  have hl' : ([] : List Int).length + xs.length ≤ 1000000000 := by simpa using hl
  go_enter Try.func88, Try.ntmps88
  go_wp2_with (at_builtin; refine app_is rfl _ _ rfl w.heap.size _ _ rfl hO a cap xs rfl hn hx hl' hs ?_)
  intro v' w' hO4 hg
  go_wp2
  go_ret
  obtain ⟨a', cap', rfl, _⟩ := hO4.at
  exact ⟨a', cap', rfl, hO4, hE.grown hg hO.base⟩

set_option maxHeartbeats 400000 in
theorem l02Bottom_c (m n : Nat) (w : World) (hm : m ≤ 1000) (hn : n ≤ 1000) : Calls Try.prog 125 #[.int .i64 (m : Int), .int .i64 (n : Int)] w (GivesM w (mkMat m n fun _ _ => -1000000000000000)) := by
  have hO0 := OwnM.empty w w.heap.size (Nat.le_refl _)
  have hE0 := (Ext.refl w).alloc (.cells #[] 32)
  go_enter Try.func125, Try.ntmps125
  go_wp2
  go_loopw [5, 6] (fun s i wr => ∃ (k : Nat), k ≤ m ∧ i = .int .i64 k ∧ Ext w wr ∧ OwnM wr w.heap.size s (mkMat k n fun _ _ => -1000000000000000)) (fun _ i _ => m - (intOf i).toNat)
  case atStart => exact ⟨0, Nat.zero_le _, rfl, hE0, hO0⟩
  case round =>
    obtain ⟨k, hk, rfl, hE, hO⟩ := hrel
    clear hO0 hE0
    obtain ⟨wo, rfl⟩ : ∃ wo, wo = wr := ⟨_, rfl⟩
    by_cases hlt : k < m
    · have hO1 := OwnI.empty wo wo.heap.size (Nat.le_refl _)
      have hE1 := (Ext.refl wo).alloc (.cells #[] 2)
      go_wp2
      go_loopw [7, 8] (fun s i wr => ∃ (j : Nat), j ≤ n ∧ i = .int .i64 j ∧ Ext wo wr ∧ OwnI wr wo.heap.size s (mkRow j fun _ => -1000000000000000)) (fun _ i _ => n - (intOf i).toNat)
      case atStart => exact ⟨0, Nat.zero_le _, rfl, hE1, hO1⟩
      case round =>
        obtain ⟨j, hj, rfl, hE2, hO2⟩ := hrel
        clear hE1 hO1
        by_cases hltn : j < n
        · have hl : (mkRow j fun _ => -1000000000000000).length ≤ 1000000000 := by rw [mkRow_len]; omega
          have hs := (hE2.alloc (.cells #[.int .i64 (-1000000000000000)] 2)).size
          go_wp2_with (at_builtin; refine app_i rfl _ _ rfl wo.heap.size _ _ rfl (hO2.ext ((Ext.refl wr).alloc _)) ⟨wr.heap.size, 0, none⟩ 1 (-1000000000000000) rfl (cell_one _ _ _) hl hs ?_)
          intro v' w' hO4 hg
          go_wp2
          go_roundw
          case rel => exact ⟨j + 1, by omega, by go_num, grown_i hE2 hO2 (Nat.le_refl _) hg, by rw [mkRow_succ]; exact hO4⟩
          case measure => simp [intOf]; omega
        · obtain rfl : n = j := by omega
          obtain ⟨ar, cr, rfl, _⟩ := hO2.at
          have hl : (mkMat k n fun _ _ => -1000000000000000).length ≤ 1000000000 := by rw [mkMat_len]; omega
          have hE3 := hE2.alloc (.cells #[.slice ar (mkRow n fun _ => -1000000000000000).length cr] 32)
          go_wp2_with (at_builtin; refine app_m rfl _ _ rfl w.heap.size _ _ rfl hO hE3 ⟨wr.heap.size, 0, none⟩ 1 ar cr (mkRow n fun _ => -1000000000000000) rfl (cell_one _ _ _) (hO2.ext ((Ext.refl wr).alloc _)) hl hE.size ?_)
          intro v' w' hO4 hg
          go_wp2
          go_roundw
          case rel => exact ⟨k + 1, by omega, by go_num, grown_m (hE.trans hE2) (hO.ext hE2) (Nat.le_refl _) hg, by rw [mkMat_succ]; exact hO4⟩
          case measure => simp [intOf]; omega
    · obtain rfl : m = k := by omega
      go_wp2
      go_ret
      obtain ⟨a, cap, rfl, _⟩ := hO.at
      exact ⟨a, cap, rfl, hO, hE⟩

set_option maxHeartbeats 400000 in
theorem l02Unit_c (n : Nat) (w : World) (hn : n ≤ 1000) : Calls Try.prog 112 #[.int .i64 (n : Int)] w (GivesM w (mkMat n n unitF)) := by
  go_enter Try.func112, Try.ntmps112
  go_wp2_with fail
  refine (l02Bottom_c n n _ hn hn).mono ?_
  rintro e w1 ⟨a, cap, rfl, hO, hE⟩
  have hr := rect_mk n n fun _ _ => -1000000000000000
  have hf : ∀ i j, i < n → j < n → ent (mkMat n n fun _ _ => -1000000000000000) i j = -1000000000000000 := fun i j hi hj => mkMat_ent hi hj
  rcases hO with ⟨hv, hnil⟩ | ⟨g, cap', A, C, hv, hM⟩
  · have hn0 : n = 0 := by have := congrArg List.length hnil; rw [mkMat_len] at this; exact this
    subst hn0
    simp only [Value.slice.injEq] at hv
    obtain ⟨rfl, _, rfl⟩ := hv
    rw [mkMat_len]
    go_wp2
    go_loop [4] (fun i => i = .int .i64 0) (fun _ => 0)
    case atStart => rfl
    case round =>
      subst hrel
      go_wp2
      go_ret
      exact ⟨none, 0, rfl, OwnM.nil _ _, hE⟩
  · rw [mkMat_len] at hv ⊢
    simp only [Value.slice.injEq, true_and] at hv
    obtain ⟨rfl, rfl⟩ := hv
    generalize (mkMat n n fun _ _ => -1000000000000000) = M0 at *
    have Hf := Lib.hid hf
    have Hr := Lib.hid hr
    clear hf hr
    go_wp2
    go_loopw [4] (fun i wr => ∃ (k : Nat) (M : List (List Int)), k ≤ n ∧ i = .int .i64 k ∧ Ext w wr ∧ Mat wr w.heap.size g cap A C M ∧ Hid (Rect M n n ∧ ∀ i j, i < n → j < n → ent M i j = if i = j ∧ i < k then 0 else -1000000000000000)) (fun i _ => n - (intOf i).toNat)
    case atStart => exact ⟨0, M0, Nat.zero_le _, rfl, hE, hM, Hr.out, fun i j hi hj => by rw [Hf.out i j hi hj]; simp⟩
    case round =>
      obtain ⟨k, M, hk, rfl, hE2, hM2, hj⟩ := hrel
      clear hE hM
      obtain ⟨hr, hf⟩ := hj.out
      by_cases hlt : k < n
      · have hkM : k < M.length := by rw [hr.1]; exact hlt
        have hrk := hr.2 k hlt
        obtain ⟨r, hA, hBr, hrs, hce, hfe⟩ := hM2.addr hkM (by rw [hrk]; omega)
        have c1 := hM2.cell hkM
        rw [hrk, hA] at c1
        have c2 := hce k (by rw [hrk]; exact hlt)
        have f2 := hfe k
        have HA := Lib.hid hA
        have Hrf := Lib.hid (And.intro hr hf)
        clear hce hfe hr hf hrk hA hj
        go_wp2
        go_roundw
        case rel =>
          obtain ⟨hr, hf⟩ := Hrf.out
          have hrk := hr.2 k hlt
          refine ⟨k + 1, M.set k ((row M k).set k 0), by omega, by go_num, hE2.set hBr _, hM2.set hkM HA.out k 0, rect_set hr hlt, fun i j hi hj => ?_⟩
          rw [ent_set hkM (by rw [hrk]; exact hlt), hf i j hi hj]
          by_cases e : i = k ∧ j = k
          · rw [if_pos e, if_pos (by omega)]
          · rw [if_neg e]
            by_cases e2 : i = j ∧ i < k
            · rw [if_pos e2, if_pos (by omega)]
            · rw [if_neg e2, if_neg (by omega)]
        case measure => simp [intOf]; omega
      · obtain rfl : n = k := by omega
        go_wp2
        go_ret
        have e : M = mkMat n n unitF := rect_eq_mk hr fun i j hi hj => by
          rw [hf i j hi hj]; unfold unitF
          by_cases e : i = j
          · rw [if_pos e, if_pos ⟨e, hi⟩]
          · rw [if_neg e, if_neg (fun h => e h.1)]
        subst e
        exact ⟨_, cap, by rw [mkMat_len]; rfl, .inr ⟨g, cap, A, C, rfl, hM2⟩, hE2⟩

end Go.Proofs.Ytljchmkoafahgaa
