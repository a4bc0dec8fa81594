/- Contracts of the functions that make matrices. -/
import Derived.Test.YtljchmkoafahgaaM1
import Derived.Test.YtljchmkoafahgaaQ
namespace Go.Proofs.Ytljchmkoafahgaa
set_option linter.unusedVariables false
open Go.RowKit

set_option maxHeartbeats 1000000 in
set_option maxRecDepth 100000 in
theorem matrixBy_c (F : FuncId) (caps : Array Value) (m n : Nat) (f : Nat → Nat → Int) (w : World) (hm : m ≤ 100) (hn : n ≤ 100) (hcf : ∀ args w, Sem.run Try.prog (callFunc F args) w = .ok (.enter F args) w)
    (hF : ∀ (i j : Nat) w', i < m → j < n → Ext w w' → Calls Try.prog F (#[.int .i64 (i : Int), .int .i64 (j : Int)] ++ caps) w' fun e w'' => e = .returned (.int .i64 (f i j)) ∧ Qt w' w'') :
    Calls Try.prog 77 #[.int .i64 m, .int .i64 n, .func (.func F) #[] caps] w (GivesM w (mkMat m n f)) := by
  have HF := Lib.hid hF
  clear hF
  have hmk1 := run_make_row' (P := Try.prog) 22 32 (.slice none 0 0) 24 Try.underlying22 info_l rfl .i64 .i64 m (by omega) (by omega)
  have hmk2 := run_make_row' (P := Try.prog) 32 2 (.int .i64 0) 8 Try.underlying32 info_i rfl .i64 .i64 n (by omega) (by omega)
  have hE0 := (Ext.refl w).alloc (.cells (madeCells #[.slice none 0 0] m) 32)
  have hM0 := Mat.made (B := w.heap.size) w m (Nat.le_refl _) (by omega)
  go_enter Try.func77, Try.ntmps77
  go_wp2
  go_loopw [14] (fun i wr => ∃ (k : Nat) (A : Nat → Option Addr) (C : Nat → Nat) (M : List (List Int)), k ≤ m ∧ i = .int .i64 k ∧ Ext w wr ∧ Mat wr w.heap.size w.heap.size m A C M ∧ Hid (M.length = m ∧ ∀ j, j < k → row M j = mkRow n (f j))) (fun i _ => m - (intOf i).toNat)
  case atStart => exact ⟨0, _, _, _, Nat.zero_le _, rfl, hE0, hM0, by simp, fun j hj => absurd hj (Nat.not_lt_zero _)⟩
  case round =>
    obtain ⟨k, A, C, M, hk, rfl, hE, hM, hj⟩ := hrel
    clear hE0 hM0 hmk1
    obtain ⟨wo, rfl⟩ : ∃ wo, wo = wr := ⟨_, rfl⟩
    by_cases hlt : k < m
    · have hkM : k < M.length := by rw [hj.out.1]; exact hlt
      have hS := hE.size
      -- the new row
      obtain ⟨W1, hW1⟩ : ∃ W1, wo.alloc (.cells (madeCells #[.int .i64 0] n) 2) = W1 := ⟨_, rfl⟩
      have hO1 := OwnI.made wo wo.heap.size n (Nat.le_refl _) (by omega)
      have hE1 := (Ext.refl wo).alloc (.cells (madeCells #[.int .i64 0] n) 2)
      rw [hW1] at hO1 hE1
      have c0 := (hM.ext hE1).cell hkM
      have f0 := (hM.ext hE1).frozen k
      obtain ⟨W2, hW2⟩ : ∃ W2, W1.setCell ⟨w.heap.size, k, none⟩ (.slice (some ⟨wo.heap.size, 0, none⟩) n n) = W2 := ⟨_, rfl⟩
      have hM2 := (hM.ext hE1).setRow (a := some ⟨wo.heap.size, 0, none⟩) (c := n) hkM hE1.size hM.lt (fun i r o hi hA => by
        have := hM.own i hi
        rw [hA] at this
        exact (this.lt (k := r) rfl).2) hO1 hE.size
      have hE2 := ((hE.trans hE1).set (p := ⟨w.heap.size, k, none⟩) (Nat.le_refl _) (.slice (some ⟨wo.heap.size, 0, none⟩) n n))
      rw [List.length_replicate, hW2] at hM2
      rw [hW2] at hE2
      have c1 : W2.cell? ⟨w.heap.size, k, none⟩ = some (.slice (some ⟨wo.heap.size, 0, none⟩) n n) := by
        have := hM2.cell (i := k) (by simpa using hkM)
        rw [row_set _ _ _ _ hkM] at this
        simpa using this
      have hj2 : Hid ((M.set k (List.replicate n 0)).length = m ∧ (∀ j, j < k → row (M.set k (List.replicate n 0)) j = mkRow n (f j)) ∧ (row (M.set k (List.replicate n 0)) k).length = n) :=
        ⟨by simpa using hj.out.1, fun j h => by rw [row_set _ _ _ _ hkM, if_neg (by omega)]; exact hj.out.2 j h, by rw [row_set _ _ _ _ hkM]; simp⟩
      have hA2 : (fun i => if i = k then some (⟨wo.heap.size, 0, none⟩ : Addr) else A i) k = some ⟨wo.heap.size, 0, none⟩ := by simp
      generalize (fun i => if i = k then some (⟨wo.heap.size, 0, none⟩ : Addr) else A i) = A2 at *
      generalize (fun i => if i = k then n else C i) = C2 at *
      generalize M.set k (List.replicate n 0) = M2 at *
      have HA2 := Lib.hid hA2
      clear hA2 hM hj hE1 hO1
      go_wp2
      clear hmk2 c0 f0 hW1 hW2 c1
      go_loopw [27] (fun i wi => ∃ (t : Nat) (M3 : List (List Int)), t ≤ n ∧ i = .int .i64 t ∧ Ext w wi ∧ Mat wi w.heap.size w.heap.size m A2 C2 M3 ∧ Hid (M3.length = m ∧ (∀ j, j < k → row M3 j = mkRow n (f j)) ∧ (row M3 k).length = n ∧ ∀ j, j < t → nth (row M3 k) j = f k j)) (fun i _ => n - (intOf i).toNat)
      case atStart => exact ⟨0, M2, Nat.zero_le _, rfl, hE2, hM2, hj2.out.1, hj2.out.2.1, hj2.out.2.2, fun j hj => absurd hj (Nat.not_lt_zero _)⟩
      case round =>
        obtain ⟨t, M3, ht, rfl, hE3, hM3, hj3⟩ := hrel
        clear hE2 hM2
        by_cases hltn : t < n
        · have hkM3 : k < M3.length := by rw [hj3.out.1]; exact hlt
          have hl3 : (row M3 k).length = n := hj3.out.2.2.1
          obtain ⟨r, hr, hBr, hrs, hce, hfe⟩ := hM3.addr hkM3 (by rw [hl3]; omega)
          rw [HA2.out] at hr
          obtain rfl : wo.heap.size = r := by simpa using hr
          have c1 := hM3.cell hkM3
          rw [hl3, HA2.out] at c1
          have c2 := hce t (by rw [hl3]; exact hltn)
          have f2 := hfe t
          clear hce hfe
          go_wp2_with fail
          refine region_qt_lit 10 (by kernel_rfl) (by kernel_rfl) ?_
          simp only [List.take_succ_cons, List.take_zero, List.drop_succ_cons, List.drop_zero]
          repeat (go_big_quiet_step ((refine quiet_call (HF.out _ _ _ hlt hltn (hE3.drewN _)))))
          refine wpQuiet_nil ?_
          intro _ hw'
          obtain ⟨nq, hw''⟩ := hw'
          subst hw''
          go_wp2
          go_roundw
          case rel =>
            have hA : A2 k = some ⟨wo.heap.size, 0, none⟩ := HA2.out
            refine ⟨t + 1, M3.set k ((row M3 k).set t (f k t)), by omega, by go_num, ?_, ?_, ⟨by simpa using hj3.out.1, fun j h => ?_, ?_, fun j h => ?_⟩⟩
            · repeat (first | exact hE3 | refine Ext.drewN ?_ _ | refine Ext.drew ?_ | refine Ext.set ?_ (by show w.heap.size ≤ wo.heap.size; exact hS) _)
            · exact (hM3.set hkM3 hA t (f k t)).ext ⟨rfl, rfl, rfl, Nat.le_refl _, fun _ _ => rfl⟩
            · rw [row_set _ _ _ _ hkM3, if_neg (by omega)]; exact hj3.out.2.1 j h
            · rw [row_set _ _ _ _ hkM3]; simpa using hl3
            · rw [row_set _ _ _ _ hkM3, if_pos rfl, nth_set _ _ _ _ (by rw [hl3]; exact hltn)]
              by_cases e : j = t
              · subst e; rw [if_pos rfl]
              · rw [if_neg e]; exact hj3.out.2.2.2 j (by omega)
          case measure => simp [intOf]; omega
        · obtain rfl : n = t := by omega
          go_wp2
          go_roundw
          case rel => exact ⟨k + 1, A2, C2, M3, by omega, by go_num, hE3, hM3, hj3.out.1, fun j h => by
            by_cases e : j = k
            · subst e; exact mkRow_eq hj3.out.2.2.1 hj3.out.2.2.2
            · exact hj3.out.2.1 j (by omega)⟩
          case measure => simp [intOf]; omega
    · obtain rfl : m = k := by omega
      go_wp2
      go_ret
      have e : M = mkMat m n f := list_ext_row (by rw [mkMat_len]; exact hj.out.1) fun i hi => by rw [mkMat_row (by rw [← hj.out.1]; exact hi)]; exact hj.out.2 i (by rw [← hj.out.1]; exact hi)
      have hl : (mkMat m n f).length = m := mkMat_len _ _ _
      subst e
      refine ⟨some ⟨w.heap.size, 0, none⟩, m, ?_, .inr ⟨w.heap.size, m, A, C, rfl, hM⟩, hE⟩
      rw [hl]; rfl

end Go.Proofs.Ytljchmkoafahgaa
