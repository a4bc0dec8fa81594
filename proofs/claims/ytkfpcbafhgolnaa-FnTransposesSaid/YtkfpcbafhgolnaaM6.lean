/- Contracts of the reference's functions that make lists and matrices. Conditions: the forms and sizes that each states. -/
import Derived.Test.YtkfpcbafhgolnaaM5
import Derived.Test.YtkfpcbafhgolnaaB3
import Derived.Test.YtkfpcbafhgolnaaP3
import Derived.Test.YtkfpcbafhgolnaaQ
namespace Go.Proofs.Ytkfpcbafhgolnaa
set_option linter.unusedVariables false
open Go.RowKit

theorem l01Own_c (a : Option Addr) (cap : Nat) (xs : List Int) (w : World) (h : IntsAt w a xs) (hn : a = none → cap = 0) (hl : xs.length ≤ 1000000000) :
    Calls Try.prog 114 #[.slice a xs.length cap] w (GivesI w xs) := by
  have hO := OwnI.empty w w.heap.size (Nat.le_refl _)
  have hE := (Ext.refl w).alloc (.cells #[] 2)
  have hs := hE.size
  have hx := h.mono hE
  have hl' : ([] : List Int).length + xs.length ≤ 1000000000 := by simpa using hl
  go_enter Try.func114, Try.ntmps114
  go_wp2_with (at_builtin; refine app_is rfl _ _ rfl w.heap.size _ _ rfl hO a cap xs rfl hn hx hl' hs ?_)
  intro v' w' hO4 hg
  go_wp2
  go_ret
  obtain ⟨a', cap', rfl, _⟩ := hO4.at
  exact ⟨a', cap', rfl, hO4, hE.grown hg hO.base⟩

set_option maxHeartbeats 400000 in
theorem l02Bottom_c (m n : Nat) (w : World) (hm : m ≤ 1000) (hn : n ≤ 1000) : Calls Try.prog 119 #[.int .i64 (m : Int), .int .i64 (n : Int)] w (GivesM w (mkMat m n fun _ _ => -1000000000000000)) := by
  have hO0 := OwnM.empty w w.heap.size (Nat.le_refl _)
  have hE0 := (Ext.refl w).alloc (.cells #[] 27)
  go_enter Try.func119, Try.ntmps119
  go_wp2
  go_loopw [5, 6] (fun s i wr => ∃ (k : Nat), k ≤ m ∧ i = .int .i64 k ∧ Ext w wr ∧ OwnM wr w.heap.size s (mkMat k n fun _ _ => -1000000000000000)) (fun _ i _ => m - (intOf i).toNat)
  case atStart => exact ⟨0, Nat.zero_le _, rfl, hE0, hO0⟩
  case round =>
    obtain ⟨k, hk, rfl, hE, hO⟩ := hrel
    clear hO0 hE0
    obtain ⟨wo, rfl⟩ : ∃ wo, wo = wr := ⟨_, rfl⟩
    by_cases hlt : k < m
    · have hO1 := OwnI.empty wo wo.heap.size (Nat.le_refl _)
      have hE1 := (Ext.refl wo).alloc (.cells #[] 2)
      go_wp2
      go_loopw [7, 8] (fun s i wr => ∃ (j : Nat), j ≤ n ∧ i = .int .i64 j ∧ Ext wo wr ∧ OwnI wr wo.heap.size s (mkRow j fun _ => -1000000000000000)) (fun _ i _ => n - (intOf i).toNat)
      case atStart => exact ⟨0, Nat.zero_le _, rfl, hE1, hO1⟩
      case round =>
        obtain ⟨j, hj, rfl, hE2, hO2⟩ := hrel
        clear hE1 hO1
        by_cases hltn : j < n
        · have hl : (mkRow j fun _ => -1000000000000000).length ≤ 1000000000 := by rw [mkRow_len]; omega
          have hs := (hE2.alloc (.cells #[.int .i64 (-1000000000000000)] 2)).size
          go_wp2_with (at_builtin; refine app_i rfl _ _ rfl wo.heap.size _ _ rfl (hO2.ext ((Ext.refl wr).alloc _)) ⟨wr.heap.size, 0, none⟩ 1 (-1000000000000000) rfl (cell_one _ _ _) hl hs ?_)
          intro v' w' hO4 hg
          go_wp2
          go_roundw
          case rel => exact ⟨j + 1, by omega, by go_num, grown_i hE2 hO2 (Nat.le_refl _) hg, by rw [mkRow_succ]; exact hO4⟩
          case measure => simp [intOf]; omega
        · obtain rfl : n = j := by omega
          obtain ⟨ar, cr, rfl, _⟩ := hO2.at
          have hl : (mkMat k n fun _ _ => -1000000000000000).length ≤ 1000000000 := by rw [mkMat_len]; omega
          have hE3 := hE2.alloc (.cells #[.slice ar (mkRow n fun _ => -1000000000000000).length cr] 27)
          go_wp2_with (at_builtin; refine app_m rfl _ _ rfl w.heap.size _ _ rfl hO hE3 ⟨wr.heap.size, 0, none⟩ 1 ar cr (mkRow n fun _ => -1000000000000000) rfl (cell_one _ _ _) (hO2.ext ((Ext.refl wr).alloc _)) hl hE.size ?_)
          intro v' w' hO4 hg
          go_wp2
          go_roundw
          case rel => exact ⟨k + 1, by omega, by go_num, grown_m (hE.trans hE2) (hO.ext hE2) (Nat.le_refl _) hg, by rw [mkMat_succ]; exact hO4⟩
          case measure => simp [intOf]; omega
    · obtain rfl : m = k := by omega
      go_wp2
      go_ret
      obtain ⟨a, cap, rfl, _⟩ := hO.at
      exact ⟨a, cap, rfl, hO, hE⟩

end Go.Proofs.Ytkfpcbafhgolnaa
