/- Contracts of reaching and l05Reach, of componentsOf and l05Components. Conditions: the form of the matrix. -/
import Derived.Test.YtokhkpbebimohaaBB
import Derived.Test.YtokhkpbebimohaaGK
import Derived.Test.YtokhkpbebimohaaGN
import Derived.Test.YtokhkpbebimohaaGM
namespace Go.Proofs.Ytokhkpbebimohaa
set_option linter.unusedVariables false
set_option linter.unusedSimpArgs false
open Go.RowKit

theorem BB.FillD.same {F I : Nat → Nat → Bool} {m n : Nat} {M : List (List Bool)} {D : Nat → Nat → Prop} (h : BB.FillD F I m n D M) {i j : Nat} (hi : i < m) (hj : j < n) (e : F i j = I i j) : BB.ent M i j = I i j := by
  rcases Classical.em (D i j) with hd | hd
  · rw [(h.2 i j hi hj).1 hd, e]
  · exact (h.2 i j hi hj).2 hd

set_option maxHeartbeats 4000000 in
set_option maxRecDepth 100000 in
theorem reaching_c (a : Option Addr) (ca : Nat) (x : List (List Int)) (w : World) (hx : MatAt w a x) (hs : isSq x = true) :
    Calls Try.prog 69 #[.slice a x.length ca] w (BB.GivesM w (BB.mkMat x.length x.length (wB x x.length))) := by
  obtain ⟨rx, hl1, hl2⟩ := isSq_rect hs
  obtain ⟨n, hn⟩ : ∃ n, x.length = n := ⟨_, rfl⟩
  rw [hn] at rx hl1 hl2 ⊢
  obtain ⟨p, o, rfl⟩ := hx.base (by omega)
  have HX := Lib.hid (And.intro hx rx)
  clear hx rx hs hn
  have hmk1 := run_make_row' (P := Try.prog) 76 75 (.slice none 0 0) 24 Try.underlying76 BB.info_lb rfl .i64 .i64 n (by omega) (by omega)
  have hmk2 := run_make_row' (P := Try.prog) 75 4 (.bool false) 1 Try.underlying75 BB.info_b rfl .i64 .i64 n (by omega) (by omega)
  have hE0 := (Ext.refl w).alloc (.cells (madeCells #[.slice none 0 0] n) 75)
  have hM0 := BB.Mat.made (B := w.heap.size) w n (Nat.le_refl _) (by omega)
  go_enter Try.func69, Try.ntmps69
  go_wp2
  go_loopw [16] (fun i wr => ∃ (k : Nat) (A : Nat → Option Addr) (C : Nat → Nat) (M : List (List Bool)), k ≤ n ∧ i = .int .i64 k ∧ Ext w wr ∧ BB.Mat wr w.heap.size w.heap.size n A C M ∧ Hid (M.length = n ∧ ∀ j, j < k → BB.row M j = BB.mkRow n (eB x j))) (fun i _ => n - (intOf i).toNat)
  case atStart => exact ⟨0, _, _, _, Nat.zero_le _, rfl, hE0, hM0, by simp, fun j hj => absurd hj (Nat.not_lt_zero _)⟩
  case round =>
    obtain ⟨k, A, C, M, hk, rfl, hE, hM, hj⟩ := hrel
    clear hE0 hM0 hmk1
    obtain ⟨wo, rfl⟩ : ∃ wo, wo = wr := ⟨_, rfl⟩
    by_cases hlt : k < n
    · have hkM : k < M.length := by rw [hj.out.1]; exact hlt
      have hS := hE.size
      obtain ⟨W1, hW1⟩ : ∃ W1, wo.alloc (.cells (madeCells #[.bool false] n) 4) = W1 := ⟨_, rfl⟩
      have hO1 := BB.OwnI.made wo wo.heap.size n (Nat.le_refl _) (by omega)
      have hE1 := (Ext.refl wo).alloc (.cells (madeCells #[.bool false] n) 4)
      rw [hW1] at hO1 hE1
      have c0 := (hM.ext hE1).cell hkM
      have f0 := (hM.ext hE1).frozen k
      obtain ⟨W2, hW2⟩ : ∃ W2, W1.setCell ⟨w.heap.size, k, none⟩ (.slice (some ⟨wo.heap.size, 0, none⟩) n n) = W2 := ⟨_, rfl⟩
      have hM2 := (hM.ext hE1).setRow (a := some ⟨wo.heap.size, 0, none⟩) (c := n) hkM hE1.size hM.lt (fun i r o hi hA => by
        have := hM.own i hi
        rw [hA] at this
        exact (this.lt (k := r) rfl).2) hO1 hE.size
      have hE2 := ((hE.trans hE1).set (p := ⟨w.heap.size, k, none⟩) (Nat.le_refl _) (.slice (some ⟨wo.heap.size, 0, none⟩) n n))
      rw [List.length_replicate, hW2] at hM2
      rw [hW2] at hE2
      have c1 : W2.cell? ⟨w.heap.size, k, none⟩ = some (.slice (some ⟨wo.heap.size, 0, none⟩) n n) := by
        have := hM2.cell (i := k) (by simpa using hkM)
        rw [BB.row_set _ _ _ _ hkM] at this
        simpa using this
      have hj2 : Hid ((M.set k (List.replicate n false)).length = n ∧ (∀ j, j < k → BB.row (M.set k (List.replicate n false)) j = BB.mkRow n (eB x j)) ∧ (BB.row (M.set k (List.replicate n false)) k).length = n) :=
        ⟨by simpa using hj.out.1, fun j h => by rw [BB.row_set _ _ _ _ hkM, if_neg (by omega)]; exact hj.out.2 j h, by rw [BB.row_set _ _ _ _ hkM]; simp⟩
      have hA2 : (fun i => if i = k then some (⟨wo.heap.size, 0, none⟩ : Addr) else A i) k = some ⟨wo.heap.size, 0, none⟩ := by simp
      generalize (fun i => if i = k then some (⟨wo.heap.size, 0, none⟩ : Addr) else A i) = A2 at *
      generalize (fun i => if i = k then n else C i) = C2 at *
      generalize M.set k (List.replicate n false) = M2 at *
      have HA2 := Lib.hid hA2
      clear hA2 hM hj hE1 hO1
      go_wp2
      clear hmk2 c0 f0 hW1 hW2 c1
      go_loopw [25] (fun i wi => ∃ (t : Nat) (M3 : List (List Bool)), t ≤ n ∧ i = .int .i64 t ∧ Ext w wi ∧ BB.Mat wi w.heap.size w.heap.size n A2 C2 M3 ∧ Hid (M3.length = n ∧ (∀ j, j < k → BB.row M3 j = BB.mkRow n (eB x j)) ∧ (BB.row M3 k).length = n ∧ ∀ j, j < t → BB.nth (BB.row M3 k) j = eB x k j)) (fun i _ => n - (intOf i).toNat)
      case atStart => exact ⟨0, M2, Nat.zero_le _, rfl, hE2, hM2, hj2.out.1, hj2.out.2.1, hj2.out.2.2, fun j hj => absurd hj (Nat.not_lt_zero _)⟩
      case round =>
        obtain ⟨t, M3, ht, rfl, hE3, hM3, hj3⟩ := hrel
        clear hE2 hM2
        by_cases hltn : t < n
        · have hkM3 : k < M3.length := by rw [hj3.out.1]; exact hlt
          have hl3 : (BB.row M3 k).length = n := hj3.out.2.2.1
          obtain ⟨r, hr, hBr, hrs, hce, hfe⟩ := hM3.addr hkM3 (by rw [hl3]; omega)
          rw [HA2.out] at hr
          obtain rfl : wo.heap.size = r := by simpa using hr
          have c1 := hM3.cell hkM3
          rw [hl3, HA2.out] at c1
          have c2 := hce t (by rw [hl3]; exact hltn)
          have f2 := hfe t
          have hset := fun z => hM3.set hkM3 (show A2 k = some ⟨wo.heap.size, 0, none⟩ from HA2.out) t z
          have hset := Lib.hid hset
          have hnext : ∀ z, z = eB x k t → Hid ((M3.set k ((BB.row M3 k).set t z)).length = n ∧ (∀ j, j < k → BB.row (M3.set k ((BB.row M3 k).set t z)) j = BB.mkRow n (eB x j)) ∧ (BB.row (M3.set k ((BB.row M3 k).set t z)) k).length = n ∧ ∀ j, j < t + 1 → BB.nth (BB.row (M3.set k ((BB.row M3 k).set t z)) k) j = eB x k j) := fun z hz =>
            ⟨by simpa using hj3.out.1, fun j h => by rw [BB.row_set _ _ _ _ hkM3, if_neg (by omega)]; exact hj3.out.2.1 j h, by rw [BB.row_set _ _ _ _ hkM3]; simpa using hl3, fun j h => by
              rw [BB.row_set _ _ _ _ hkM3, if_pos rfl, BB.nth_set _ _ _ _ (by rw [hl3]; exact hltn)]
              by_cases e : j = t
              · subst e; rw [if_pos rfl]; exact hz
              · rw [if_neg e]; exact hj3.out.2.2.2 j (by omega)⟩
          have hnext := Lib.hid hnext
          have hEw := fun z => hE3.set (p := ⟨wo.heap.size, t, none⟩) hS (.bool z)
          clear hce hfe hl3
          by_cases hkt : k = t
          · have hb : ((k : Int) == (t : Int)) = true := by simp [hkt]
            have hv : eB x k t = true := by unfold eB; simp [hkt]
            have Hv := Lib.hid hv
            clear hv hkt
            go_wp2_with fail
            refine region_qt_lit 19 (by kernel_rfl) (by kernel_rfl) ?_
            simp only [List.take_succ_cons, List.take_zero, List.drop_succ_cons, List.drop_zero]
            repeat (go_big_quiet_step ((fail)))
            refine wpQuiet_nil ?_
            intro _ hw'
            obtain ⟨nq, hw''⟩ := hw'
            subst hw''
            go_wp2
            go_roundw
            case rel =>
              refine ⟨t + 1, M3.set k ((BB.row M3 k).set t true), by omega, by go_num, ?_, ?_, hnext.out _ Hv.out.symm⟩
              · repeat (first | exact hE3 | refine Ext.drewN ?_ _ | refine Ext.drew ?_ | refine Ext.set ?_ (by show w.heap.size ≤ wo.heap.size; exact hS) _)
              · exact (hset.out _).ext ⟨rfl, rfl, rfl, Nat.le_refl _, fun _ _ => rfl⟩
            case measure => simp [intOf]; omega
          · have hb : ((k : Int) == (t : Int)) = false := by rw [beq_eq_false_iff_ne]; omega
            obtain ⟨q, o3, c, d1, dd, -⟩ := HX.out.1.hdr HX.out.2 hltn (by omega)
            have d2 := hE3.cell (dd k hlt)
            replace d1 := hE3.cell d1
            clear dd
            have hv : eB x k t = (ent x t k != -1000000000000000) := by unfold eB; simp [hkt]
            by_cases s4 : ent x t k = -1000000000000000
            · rw [s4] at hv d2
              have Hv := Lib.hid hv
              clear hv hkt s4
              go_wp2_with fail
              refine region_qt_lit 19 (by kernel_rfl) (by kernel_rfl) ?_
              simp only [List.take_succ_cons, List.take_zero, List.drop_succ_cons, List.drop_zero]
              repeat (go_big_quiet_step ((fail)))
              refine wpQuiet_nil ?_
              intro _ hw'
              obtain ⟨nq, hw''⟩ := hw'
              subst hw''
              go_wp2
              go_roundw
              case rel =>
                refine ⟨t + 1, M3.set k ((BB.row M3 k).set t false), by omega, by go_num, ?_, ?_, hnext.out _ Hv.out.symm⟩
                · repeat (first | exact hE3 | refine Ext.drewN ?_ _ | refine Ext.drew ?_ | refine Ext.set ?_ (by show w.heap.size ≤ wo.heap.size; exact hS) _)
                · exact (hset.out _).ext ⟨rfl, rfl, rfl, Nat.le_refl _, fun _ _ => rfl⟩
              case measure => simp [intOf]; omega
            · have hs4 : (ent x t k == -1000000000000000) = false := by simpa using s4
              have hs4' : (ent x t k != -1000000000000000) = true := by simpa using s4
              rw [hs4'] at hv
              have Hv := Lib.hid hv
              clear hv hkt s4
              generalize ent x t k = z at *
              go_wp2_with fail
              refine region_qt_lit 19 (by kernel_rfl) (by kernel_rfl) ?_
              simp only [List.take_succ_cons, List.take_zero, List.drop_succ_cons, List.drop_zero]
              repeat (go_big_quiet_step ((fail)))
              refine wpQuiet_nil ?_
              intro _ hw'
              obtain ⟨nq, hw''⟩ := hw'
              subst hw''
              go_wp2
              go_roundw
              case rel =>
                refine ⟨t + 1, M3.set k ((BB.row M3 k).set t true), by omega, by go_num, ?_, ?_, hnext.out _ Hv.out.symm⟩
                · repeat (first | exact hE3 | refine Ext.drewN ?_ _ | refine Ext.drew ?_ | refine Ext.set ?_ (by show w.heap.size ≤ wo.heap.size; exact hS) _)
                · exact (hset.out _).ext ⟨rfl, rfl, rfl, Nat.le_refl _, fun _ _ => rfl⟩
              case measure => simp [intOf]; omega
        · obtain rfl : n = t := by omega
          go_wp2
          go_roundw
          case rel => exact ⟨k + 1, A2, C2, M3, by omega, by go_num, hE3, hM3, hj3.out.1, fun j h => by
            by_cases e : j = k
            · subst e; exact BB.mkRow_eq hj3.out.2.2.1 hj3.out.2.2.2
            · exact hj3.out.2.1 j (by omega)⟩
          case measure => simp [intOf]; omega
    · obtain rfl : n = k := by omega
      have e : M = BB.mkMat n n (eB x) := BB.list_ext_row (by rw [BB.mkMat_len]; exact hj.out.1) fun i hi => by rw [BB.mkMat_row (by rw [← hj.out.1]; exact hi)]; exact hj.out.2 i (by rw [← hj.out.1]; exact hi)
      have hF0 : Hid (BB.FillD (wB x 0) (wB x 0) n n (fun _ _ => True) M) := by
        rw [e]; exact ⟨BB.rect_mk _ _ _, fun i j hi hj => ⟨fun _ => by rw [BB.mkMat_ent hi hj]; rfl, fun h => absurd trivial h⟩⟩
      clear e hj hlt hk
      go_wp2
      clear hmk2
      go_loopw [50] (fun i wr => ∃ (k : Nat) (M : List (List Bool)), k ≤ n ∧ i = .int .i64 k ∧ Ext w wr ∧ BB.Mat wr w.heap.size w.heap.size n A C M ∧ Hid (BB.FillD (wB x k) (wB x k) n n (fun _ _ => True) M)) (fun i _ => n - (intOf i).toNat)
      case atStart => exact ⟨0, M, Nat.zero_le _, rfl, hE, hM, hF0⟩
      case round =>
        obtain ⟨k, M1, hk, rfl, hE1, hM1, hF1⟩ := hrel
        clear hE hM hF0
        by_cases hltk : k < n
        · go_wp2
          go_loopw [54] (fun i wr => ∃ (i' : Nat) (M : List (List Bool)), i' ≤ n ∧ i = .int .i64 i' ∧ Ext w wr ∧ BB.Mat wr w.heap.size w.heap.size n A C M ∧ Hid (BB.FillD (wB x (k + 1)) (wB x k) n n (fun u v => u < i') M)) (fun i _ => n - (intOf i).toNat)
          case atStart => exact ⟨0, M1, Nat.zero_le _, rfl, hE1, hM1, hF1.out.1, fun u v hu hv => ⟨fun h => absurd h (Nat.not_lt_zero _), fun _ => (hF1.out.2 u v hu hv).1 trivial⟩⟩
          case round =>
            obtain ⟨i, M2, hi, rfl, hE2, hM2, hF2⟩ := hrel
            clear hE1 hM1
            by_cases hlti : i < n
            · go_wp2
              go_loopw [58] (fun j wr => ∃ (j' : Nat) (M : List (List Bool)), j' ≤ n ∧ j = .int .i64 j' ∧ Ext w wr ∧ BB.Mat wr w.heap.size w.heap.size n A C M ∧ Hid (BB.FillD (wB x (k + 1)) (wB x k) n n (fun u v => u < i ∨ (u = i ∧ v < j')) M)) (fun i _ => n - (intOf i).toNat)
              case atStart => exact ⟨0, M2, Nat.zero_le _, rfl, hE2, hM2, hF2.out.congr fun u v _ _ => by omega⟩
              case round =>
                obtain ⟨j, M3, hj, rfl, hE3, hM3, hF3⟩ := hrel
                clear hE2 hM2
                by_cases hltj : j < n
                · have hiM : i < M3.length := by rw [hF3.out.1.1]; exact hlti
                  have hkM : k < M3.length := by rw [hF3.out.1.1]; exact hltk
                  have hri : (BB.row M3 i).length = n := hF3.out.1.2 i hlti
                  have hrk : (BB.row M3 k).length = n := hF3.out.1.2 k hltk
                  have c1 := hM3.cell hiM
                  have c3 := hM3.cell hkM
                  obtain ⟨r, hA, hBr, hrs, hce, hfe⟩ := hM3.addr hiM (by rw [hri]; omega)
                  obtain ⟨r2, hA2, hBr2, hrs2, hce2, -⟩ := hM3.addr hkM (by rw [hrk]; omega)
                  have c2 := hce j (by rw [hri]; exact hltj)
                  have c4 := hce k (by rw [hri]; exact hltk)
                  have c5 := hce2 j (by rw [hrk]; exact hltj)
                  have f2 := hfe j
                  rw [hri, hA] at c1
                  rw [hrk, hA2] at c3
                  have e1 : BB.ent M3 i j = wB x k i j := hF3.out.todo hlti hltj (by omega)
                  have e2 : BB.ent M3 i k = wB x k i k := hF3.out.same hlti hltk (wB_col x k i)
                  have e3 : BB.ent M3 k j = wB x k k j := hF3.out.same hltk hltj (wB_row x k j)
                  rw [e1] at c2
                  rw [e2] at c4
                  rw [e3] at c5
                  have hset := fun z => hM3.set hiM hA j z
                  have hset := Lib.hid hset
                  have hnext := hF3.out.step (D' := fun u v => u < i ∨ (u = i ∧ v < j + 1)) hlti hltj fun u v _ _ => by omega
                  have hv : wB x (k + 1) i j = (wB x k i j || (wB x k i k && wB x k k j)) := rfl
                  rw [hv] at hnext
                  have hnext := Lib.hid hnext
                  clear hce hfe hri hrk hA hA2 hF3 hv e1 e2 e3 hce2
                  generalize wB x k i j = b1 at *
                  generalize wB x k i k = b2 at *
                  generalize wB x k k j = b3 at *
                  cases b1 <;> cases b2 <;> cases b3
                  all_goals
                    go_wp2_with fail
                    refine region_qt_lit 31 (by kernel_rfl) (by kernel_rfl) ?_
                    simp only [List.take_succ_cons, List.take_zero, List.drop_succ_cons, List.drop_zero]
                    repeat (go_big_quiet_step ((fail)))
                    refine wpQuiet_nil ?_
                    intro _ hw'
                    obtain ⟨nq, hw''⟩ := hw'
                    subst hw''
                    go_wp2
                    go_roundw
                    case rel =>
                      refine ⟨j + 1, _, by omega, by go_num, ?_, ?_, hnext⟩
                      · repeat (first | exact hE3 | refine Ext.drewN ?_ _ | refine Ext.drew ?_ | refine Ext.set ?_ hBr _)
                      · exact (hset.out _).ext ⟨rfl, rfl, rfl, Nat.le_refl _, fun _ _ => rfl⟩
                    case measure => simp [intOf]; omega
                · obtain rfl : n = j := by omega
                  go_wp2
                  go_roundw
                  case rel => exact ⟨i + 1, M3, by omega, by go_num, hE3, hM3, hF3.out.congr fun u v _ _ => by omega⟩
                  case measure => simp [intOf]; omega
            · obtain rfl : n = i := by omega
              go_wp2
              go_roundw
              case rel => exact ⟨k + 1, M2, by omega, by go_num, hE2, hM2, hF2.out.1, fun u v hu hv => ⟨fun _ => (hF2.out.2 u v hu hv).1 hu, fun h => absurd trivial h⟩⟩
              case measure => simp [intOf]; omega
        · obtain rfl : n = k := by omega
          have e := hF1.out.done fun i j hi hj => trivial
          go_wp2
          go_ret
          subst e
          exact hM1.give hE1 (BB.mkMat_len _ _ _) rfl
set_option maxHeartbeats 4000000 in
set_option maxRecDepth 100000 in
theorem l05Reach_c (a : Option Addr) (ca : Nat) (x : List (List Int)) (w : World) (hx : MatAt w a x) (hs : isSq x = true) :
    Calls Try.prog 71 #[.slice a x.length ca] w (BB.GivesM w (BB.mkMat x.length x.length (wB x x.length))) := by
  obtain ⟨rx, hl1, hl2⟩ := isSq_rect hs
  obtain ⟨n, hn⟩ : ∃ n, x.length = n := ⟨_, rfl⟩
  rw [hn] at rx hl1 hl2 ⊢
  obtain ⟨p, o, rfl⟩ := hx.base (by omega)
  have HX := Lib.hid (And.intro hx rx)
  clear hx rx hs hn
  have hmk2 := run_make_row' (P := Try.prog) 75 4 (.bool false) 1 Try.underlying75 BB.info_b rfl .i64 .i64 n (by omega) (by omega)
  have hO0 := BB.OwnM.empty w w.heap.size (Nat.le_refl _)
  have hE0 := (Ext.refl w).alloc (.cells #[] 75)
  go_enter Try.func71, Try.ntmps71
  go_wp2
  go_loopw [4, 5] (fun s i wr => ∃ (k : Nat), k ≤ n ∧ i = .int .i64 k ∧ Ext w wr ∧ BB.OwnM wr w.heap.size s (BB.mkMat k n (wB x n))) (fun _ i _ => n - (intOf i).toNat)
  case atStart => exact ⟨0, Nat.zero_le _, rfl, hE0, hO0⟩
  case round =>
    obtain ⟨v, hv, rfl, hE, hO⟩ := hrel
    clear hO0 hE0
    obtain ⟨wo, rfl⟩ : ∃ wo, wo = wr := ⟨_, rfl⟩
    by_cases hlt : v < n
    · obtain ⟨W1, hW1⟩ : ∃ W1, wo.alloc (.cells (madeCells #[.bool false] n) 4) = W1 := ⟨_, rfl⟩
      have hO1 := BB.OwnI.made wo wo.heap.size n (Nat.le_refl _) (by omega)
      have hE1 := (Ext.refl wo).alloc (.cells (madeCells #[.bool false] n) 4)
      rw [hW1] at hO1 hE1
      have hO2 := hO1.set v true
      have hlr : (List.replicate n false).length = n := by simp
      rw [hlr] at hO2
      obtain ⟨g, hg, -, -, hce, hfe⟩ := BB.OwnI.open (by rw [hlr] at hO1; exact hO1) (show 0 < n by omega)
      simp only [Option.some.injEq, Addr.mk.injEq, and_true] at hg
      subst hg
      have c0 := hce v hlt
      have f0 := hfe v
      have hE2 := hE1.set (p := ⟨wo.heap.size, v, none⟩) (Nat.le_refl _) (.bool true)
      obtain ⟨W2, hW2⟩ : ∃ W2, W1.setCell ⟨wo.heap.size, v, none⟩ (.bool true) = W2 := ⟨_, rfl⟩
      rw [hW2] at hO2 hE2
      have hR0 : Hid (((List.replicate n false).set v true).length = n ∧ RIn x n v 0 (fun _ _ => False) (BB.nth ((List.replicate n false).set v true))) :=
        ⟨by simp, RIn.start fun i hi => by
          rw [BB.nth_set _ _ _ _ (by simpa using hlt)]
          by_cases e : i = v
          · rw [if_pos e]; simp [e]
          · rw [if_neg e, BB.nth_replicate n false hi]; simp [e]⟩
      generalize (List.replicate n false).set v true = L at *
      clear hO1 hce hfe hlr hE1
      go_wp2
      clear hmk2 c0 f0 hW1 hW2
      go_loopw [7] (fun i wr => ∃ (r : Nat) (L : List Bool), r ≤ n ∧ i = .int .i64 r ∧ Ext wo wr ∧ BB.OwnI wr wo.heap.size (.slice (some ⟨wo.heap.size, 0, none⟩) n n) L ∧ Hid (L.length = n ∧ RIn x n v r (fun _ _ => False) (BB.nth L))) (fun i _ => n - (intOf i).toNat)
      case atStart => exact ⟨0, L, Nat.zero_le _, rfl, hE2, hO2, hR0⟩
      case round =>
        obtain ⟨r, L1, hr, rfl, hE3, hO3, hR1⟩ := hrel
        clear hE2 hO2 hR0
        by_cases hltr : r < n
        · go_wp2
          go_loopw [8] (fun i wr => ∃ (i' : Nat) (L : List Bool), i' ≤ n ∧ i = .int .i64 i' ∧ Ext wo wr ∧ BB.OwnI wr wo.heap.size (.slice (some ⟨wo.heap.size, 0, none⟩) n n) L ∧ Hid (L.length = n ∧ RIn x n v r (fun u _ => u < i') (BB.nth L))) (fun i _ => n - (intOf i).toNat)
          case atStart => exact ⟨0, L1, Nat.zero_le _, rfl, hE3, hO3, hR1.out.1, hR1.out.2.congr fun u t _ _ h => absurd h (Nat.not_lt_zero _)⟩
          case round =>
            obtain ⟨i, L2, hi, rfl, hE4, hO4, hR2⟩ := hrel
            clear hE3 hO3 hR1
            by_cases hlti : i < n
            · go_wp2
              go_loopw [9] (fun j wr => ∃ (k : Nat) (L : List Bool), k ≤ n ∧ j = .int .i64 k ∧ Ext wo wr ∧ BB.OwnI wr wo.heap.size (.slice (some ⟨wo.heap.size, 0, none⟩) n n) L ∧ Hid (L.length = n ∧ RIn x n v r (fun u t => u < i ∨ (u = i ∧ t < k)) (BB.nth L))) (fun j _ => n - (intOf j).toNat)
              case atStart => exact ⟨0, L2, Nat.zero_le _, rfl, hE4, hO4, hR2.out.1, hR2.out.2.congr fun u t _ _ h => by omega⟩
              case round =>
                obtain ⟨k, L3, hk, rfl, hE5, hO5, hR3⟩ := hrel
                clear hE4 hO4 hR2
                by_cases hltk : k < n
                · have hlen := hR3.out.1
                  obtain ⟨g, hg, hBg, hgs, hce, hfe⟩ := hO5.open (show 0 < n by omega)
                  simp only [Option.some.injEq, Addr.mk.injEq, and_true] at hg
                  subst hg
                  have c0 := hce k hltk
                  obtain ⟨q, o3, c, d1, dd, -⟩ := HX.out.1.hdr HX.out.2 hlti (by omega)
                  have d2 := hE5.cell (hE.cell (dd k hltk))
                  replace d1 := hE5.cell (hE.cell d1)
                  clear dd
                  cases hb : BB.nth L3 k
                  · have hR4 : Hid (RIn x n v r (fun u t => u < i ∨ (u = i ∧ t < k + 1)) (BB.nth L3)) := hR3.out.2.no (i := i) (k := k) (by rw [hb]; simp) fun u t _ _ h => by omega
                    rw [hb] at c0
                    have Hl := Lib.hid hlen
                    clear hce hfe hlen hR3 hb
                    go_wp2
                    go_roundw
                    case rel => exact ⟨k + 1, L3, by omega, by go_num, hE5, hO5, Hl.out, hR4.out⟩
                    case measure => simp [intOf]; omega
                  · by_cases s4 : ent x i k = -1000000000000000
                    · have hR4 : Hid (RIn x n v r (fun u t => u < i ∨ (u = i ∧ t < k + 1)) (BB.nth L3)) := hR3.out.2.no (i := i) (k := k) (by rw [s4]; simp) fun u t _ _ h => by omega
                      rw [hb] at c0
                      rw [s4] at d2
                      have Hl := Lib.hid hlen
                      clear hce hfe hlen hR3 hb s4
                      go_wp2
                      go_roundw
                      case rel => exact ⟨k + 1, L3, by omega, by go_num, hE5, hO5, Hl.out, hR4.out⟩
                      case measure => simp [intOf]; omega
                    · have hR4 : Hid (RIn x n v r (fun u t => u < i ∨ (u = i ∧ t < k + 1)) (BB.nth (L3.set i true))) := hR3.out.2.yes (i := i) hltk hb s4 (fun j => BB.nth_set _ _ _ _ (by rw [hlen]; exact hlti)) fun u t _ _ h => by omega
                      have hs4 : (ent x i k == -1000000000000000) = false := by simpa using s4
                      have hs4' : (ent x i k != -1000000000000000) = true := by simpa using s4
                      have c1 := hce i hlti
                      have f1 := hfe i
                      have hset : BB.OwnI (wr.setCell ⟨wo.heap.size, i, none⟩ (.bool true)) wo.heap.size (.slice (some ⟨wo.heap.size, 0, none⟩) n n) (L3.set i true) := by
                        have h := hO5
                        rw [← hlen] at h
                        have := h.set i true
                        rwa [hlen] at this
                      rw [hb] at c0
                      have Hl := Lib.hid (show (L3.set i true).length = n by simpa using hlen)
                      have Hs := Lib.hid hset
                      have hE6 := hE5.set (p := ⟨wo.heap.size, i, none⟩) (Nat.le_refl _) (.bool true)
                      clear hce hfe hlen hR3 hb s4 hset
                      generalize ent x i k = z at *
                      go_wp2
                      go_roundw
                      case rel => exact ⟨k + 1, L3.set i true, by omega, by go_num, hE6, Hs.out, Hl.out, hR4.out⟩
                      case measure => simp [intOf]; omega
                · obtain rfl : n = k := by omega
                  go_wp2
                  go_roundw
                  case rel => exact ⟨i + 1, L3, by omega, by go_num, hE5, hO5, hR3.out.1, hR3.out.2.congr fun u t _ ht h => by omega⟩
                  case measure => simp [intOf]; omega
            · obtain rfl : n = i := by omega
              go_wp2
              go_roundw
              case rel => exact ⟨r + 1, L2, by omega, by go_num, hE4, hO4, hR2.out.1, hR2.out.2.next (fun u t hu _ => hu) hlt⟩
              case measure => simp [intOf]; omega
        · obtain rfl : n = r := by omega
          have e : L1 = BB.mkRow n (wB x n v) := BB.mkRow_eq hR1.out.1 fun j hj => hR1.out.2.done hlt hj
          have hl : (BB.mkMat v n (wB x n)).length ≤ 1000000000 := by rw [BB.mkMat_len]; omega
          have hrl : (BB.mkRow n (wB x n v)).length = n := BB.mkRow_len _ _
          rw [e] at hO3
          have hE4 := hE3.alloc (.cells #[.slice (some ⟨wo.heap.size, 0, none⟩) (BB.mkRow n (wB x n v)).length n] 75)
          have hO4 := hO3.ext ((Ext.refl wr).alloc (.cells #[.slice (some ⟨wo.heap.size, 0, none⟩) (BB.mkRow n (wB x n v)).length n] 75))
          rw [hrl] at hE4 hO4
          clear hR1 e
          go_wp2_with (at_builtin; refine BB.app_m rfl _ _ rfl w.heap.size _ _ rfl hO hE4 ⟨wr.heap.size, 0, none⟩ 1 (some ⟨wo.heap.size, 0, none⟩) n (BB.mkRow n (wB x n v)) rfl (by rw [hrl]; exact cell_one _ _ _) (by rw [hrl]; exact hO4) hl hE.size ?_)
          intro v' w' hO5 hg
          go_wp2
          go_roundw
          case rel => exact ⟨v + 1, by omega, by go_num, BB.grown_m (hE.trans hE3) (hO.ext hE3) (Nat.le_refl _) hg, by rw [BB.mkMat_succ]; exact hO5⟩
          case measure => simp [intOf]; omega
    · obtain rfl : n = v := by omega
      go_wp2
      go_ret
      obtain ⟨a', cap', rfl, _⟩ := hO.at
      exact ⟨a', cap', rfl, hO, hE⟩

set_option maxHeartbeats 1000000 in
theorem componentsOf_c (a : Option Addr) (ca : Nat) (x : List (List Int)) (w : World) (hx : MatAt w a x) (hs : isSq x = true) :
    Calls Try.prog 63 #[.slice a x.length ca] w (GivesM w (compsM (wB x x.length) x.length x.length)) := by
  obtain ⟨rx, hl1, hl2⟩ := isSq_rect hs
  have hR := reaching_c a ca x w hx hs
  obtain ⟨n, hn⟩ : ∃ n, x.length = n := ⟨_, rfl⟩
  have hrefl : ∀ i, wB x n i i = true := wB_refl x n
  rw [hn] at hR hl1 hl2 ⊢
  have HR := Lib.hid hR
  clear hx rx hs hn hR
  go_enter Try.func63, Try.ntmps63
  go_wp2_with fail
  refine HR.out.mono ?_
  rintro e w1 ⟨ar, cr, rfl, hOr, hEr⟩
  have hmr := hOr.mat
  have hml : (BB.mkMat n n (wB x n)).length = n := BB.mkMat_len _ _ _
  rw [hml]
  obtain ⟨p, o, rfl⟩ := hmr.base (by omega)
  have HM := Lib.hid hmr
  generalize wB x n = R at *
  clear hOr hmr hml
  have hO0 := OwnM.nil w1 w1.heap.size
  go_wp2
  go_loopw [4, 12] (fun s i wr => ∃ (k : Nat), k ≤ n ∧ i = .int .i64 k ∧ Ext w1 wr ∧ OwnM wr w1.heap.size s (compsM R n k)) (fun _ i _ => n - (intOf i).toNat)
  case atStart => exact ⟨0, Nat.zero_le _, rfl, Ext.refl _, hO0⟩
  case round =>
    obtain ⟨k, hk, rfl, hE, hO⟩ := hrel
    clear hO0
    obtain ⟨wo, rfl⟩ : ∃ wo, wo = wr := ⟨_, rfl⟩
    by_cases hlt : k < n
    · have hO1 := OwnI.nil wo wo.heap.size
      go_wp2
      go_loopw [6, 17] (fun s i wr => ∃ (t : Nat), t ≤ n ∧ i = .int .i64 t ∧ Ext wo wr ∧ OwnI wr wo.heap.size s (ownC R k t)) (fun _ i _ => n - (intOf i).toNat)
      case atStart => exact ⟨0, Nat.zero_le _, rfl, Ext.refl _, hO1⟩
      case round =>
        obtain ⟨t, ht, rfl, hE2, hO2⟩ := hrel
        clear hO1
        by_cases hltn : t < n
        · obtain ⟨q, o2, c, d1, dd, -⟩ := HM.out.hdr (BB.rect_mk n n R) hlt (by omega)
          obtain ⟨q', o2', c', e1, ee, -⟩ := HM.out.hdr (BB.rect_mk n n R) hltn (by omega)
          have hEE := hE.trans hE2
          replace d1 := hEE.cell d1
          have d2 := hEE.cell (dd t hltn)
          replace e1 := hEE.cell e1
          have e2 := hEE.cell (ee k hlt)
          rw [BB.mkMat_ent hlt hltn] at d2
          rw [BB.mkMat_ent hltn hlt] at e2
          have hst : ownC R k (t + 1) = if R k t && R t k then ownC R k t ++ [(t : Int)] else ownC R k t := rfl
          clear dd ee hEE
          generalize R k t = b1 at *
          generalize R t k = b2 at *
          cases b1
          · have Hst := Lib.hid hst
            clear hst
            go_wp2
            go_roundw
            case rel => exact ⟨t + 1, by omega, by go_num, hE2, by rw [Hst.out]; exact hO2⟩
            case measure => simp [intOf]; omega
          · cases b2
            · have Hst := Lib.hid hst
              clear hst
              go_wp2
              go_roundw
              case rel => exact ⟨t + 1, by omega, by go_num, hE2, by rw [Hst.out]; exact hO2⟩
              case measure => simp [intOf]; omega
            · have Hst := Lib.hid hst
              clear hst
              have hl : (ownC R k t).length ≤ 1000000000 := by have := ownC_len R k t; omega
              have hs := (hE2.alloc (.cells #[.int .i64 (t : Int)] 2)).size
              go_wp2_with (at_builtin; refine app_i rfl _ _ rfl wo.heap.size _ _ rfl (hO2.ext ((Ext.refl wr).alloc _)) ⟨wr.heap.size, 0, none⟩ 1 (t : Int) rfl (cell_one _ _ _) hl hs ?_)
              intro v' w' hO4 hg
              go_wp2
              go_roundw
              case rel => exact ⟨t + 1, by omega, by go_num, grown_i hE2 hO2 (Nat.le_refl _) hg, by rw [Hst.out]; exact hO4⟩
              case measure => simp [intOf]; omega
        · obtain rfl : n = t := by omega
          have hpos := ownC_pos (hrefl k) hlt
          have hln := ownC_len R k n
          have hst : compsM R n (k + 1) = if nth (ownC R k n) 0 = (k : Int) then compsM R n k ++ [ownC R k n] else compsM R n k := rfl
          obtain ⟨a', cap', rfl, _⟩ := hO2.at
          obtain ⟨g, rfl, hBg, hgs, hce, -⟩ := hO2.open hpos
          have c0 := hce 0 hpos
          have hcl := compsM_len R n k
          clear hce
          generalize ownC R k n = L at *
          by_cases hz : nth L 0 = (k : Int)
          · rw [if_pos hz] at hst
            rw [hz] at c0
            have Hst := Lib.hid hst
            have hl : (compsM R n k).length ≤ 1000000000 := by omega
            have hE3 := hE2.alloc (.cells #[.slice (some ⟨g, 0, none⟩) L.length cap'] 34)
            clear hz hst
            go_wp2_with (at_builtin; refine app_m rfl _ _ rfl w1.heap.size _ _ rfl hO hE3 ⟨wr.heap.size, 0, none⟩ 1 (some ⟨g, 0, none⟩) cap' L rfl (cell_one _ _ _) (hO2.ext ((Ext.refl wr).alloc _)) hl hE.size ?_)
            intro v' w' hO4 hg
            go_wp2
            go_roundw
            case rel => exact ⟨k + 1, by omega, by go_num, grown_m (hE.trans hE2) (hO.ext hE2) (Nat.le_refl _) hg, by rw [Hst.out]; exact hO4⟩
            case measure => simp [intOf]; omega
          · rw [if_neg hz] at hst
            have hb : (nth L 0 == (k : Int)) = false := by rw [beq_eq_false_iff_ne]; exact hz
            have Hst := Lib.hid hst
            clear hz hst
            go_wp2
            go_roundw
            case rel => exact ⟨k + 1, by omega, by go_num, hE.trans hE2, by rw [Hst.out]; exact hO.ext hE2⟩
            case measure => simp [intOf]; omega
    · obtain rfl : n = k := by omega
      go_wp2
      go_ret
      obtain ⟨a', cap', rfl, _⟩ := hO.at
      exact ⟨a', cap', rfl, hO.mono hEr.size, hEr.trans hE⟩

set_option maxHeartbeats 1000000 in
theorem l05Components_c (a : Option Addr) (ca : Nat) (x : List (List Int)) (w : World) (hx : MatAt w a x) (hs : isSq x = true) :
    Calls Try.prog 65 #[.slice a x.length ca] w (GivesM w (compsM (wB x x.length) x.length x.length)) := by
  obtain ⟨rx, hl1, hl2⟩ := isSq_rect hs
  have hR := l05Reach_c a ca x w hx hs
  obtain ⟨n, hn⟩ : ∃ n, x.length = n := ⟨_, rfl⟩
  have hrefl : ∀ i, wB x n i i = true := wB_refl x n
  rw [hn] at hR hl1 hl2 ⊢
  have HR := Lib.hid hR
  clear hx rx hs hn hR
  go_enter Try.func65, Try.ntmps65
  go_wp2_with fail
  refine HR.out.mono ?_
  rintro e w1 ⟨ar, cr, rfl, hOr, hEr⟩
  have hmr := hOr.mat
  have hml : (BB.mkMat n n (wB x n)).length = n := BB.mkMat_len _ _ _
  rw [hml]
  obtain ⟨p, o, rfl⟩ := hmr.base (by omega)
  have HM := Lib.hid hmr
  generalize wB x n = R at *
  clear hOr hmr hml
  have hO0 := OwnM.empty w1 w1.heap.size (Nat.le_refl _)
  have hE0 := (Ext.refl w1).alloc (.cells #[] 34)
  go_wp2
  go_loopw [4, 5] (fun s i wr => ∃ (k : Nat), k ≤ n ∧ i = .int .i64 k ∧ Ext w1 wr ∧ OwnM wr w1.heap.size s (compsM R n k)) (fun _ i _ => n - (intOf i).toNat)
  case atStart => exact ⟨0, Nat.zero_le _, rfl, hE0, hO0⟩
  case round =>
    obtain ⟨k, hk, rfl, hE, hO⟩ := hrel
    clear hO0 hE0
    obtain ⟨wo, rfl⟩ : ∃ wo, wo = wr := ⟨_, rfl⟩
    by_cases hlt : k < n
    · have hO1 := OwnI.empty wo wo.heap.size (Nat.le_refl _)
      have hE1 := (Ext.refl wo).alloc (.cells #[] 2)
      go_wp2
      go_loopw [6, 7] (fun s i wr => ∃ (t : Nat), t ≤ n ∧ i = .int .i64 t ∧ Ext wo wr ∧ OwnI wr wo.heap.size s (ownC R k t)) (fun _ i _ => n - (intOf i).toNat)
      case atStart => exact ⟨0, Nat.zero_le _, rfl, hE1, hO1⟩
      case round =>
        obtain ⟨t, ht, rfl, hE2, hO2⟩ := hrel
        clear hO1 hE1
        by_cases hltn : t < n
        · obtain ⟨q, o2, c, d1, dd, -⟩ := HM.out.hdr (BB.rect_mk n n R) hlt (by omega)
          obtain ⟨q', o2', c', e1, ee, -⟩ := HM.out.hdr (BB.rect_mk n n R) hltn (by omega)
          have hEE := hE.trans hE2
          replace d1 := hEE.cell d1
          have d2 := hEE.cell (dd t hltn)
          replace e1 := hEE.cell e1
          have e2 := hEE.cell (ee k hlt)
          rw [BB.mkMat_ent hlt hltn] at d2
          rw [BB.mkMat_ent hltn hlt] at e2
          have hst : ownC R k (t + 1) = if R k t && R t k then ownC R k t ++ [(t : Int)] else ownC R k t := rfl
          clear dd ee hEE
          generalize R k t = b1 at *
          generalize R t k = b2 at *
          cases b1
          · have Hst := Lib.hid hst
            clear hst
            go_wp2
            go_roundw
            case rel => exact ⟨t + 1, by omega, by go_num, hE2, by rw [Hst.out]; exact hO2⟩
            case measure => simp [intOf]; omega
          · cases b2
            · have Hst := Lib.hid hst
              clear hst
              go_wp2
              go_roundw
              case rel => exact ⟨t + 1, by omega, by go_num, hE2, by rw [Hst.out]; exact hO2⟩
              case measure => simp [intOf]; omega
            · have Hst := Lib.hid hst
              clear hst
              have hl : (ownC R k t).length ≤ 1000000000 := by have := ownC_len R k t; omega
              have hs := (hE2.alloc (.cells #[.int .i64 (t : Int)] 2)).size
              go_wp2_with (at_builtin; refine app_i rfl _ _ rfl wo.heap.size _ _ rfl (hO2.ext ((Ext.refl wr).alloc _)) ⟨wr.heap.size, 0, none⟩ 1 (t : Int) rfl (cell_one _ _ _) hl hs ?_)
              intro v' w' hO4 hg
              go_wp2
              go_roundw
              case rel => exact ⟨t + 1, by omega, by go_num, grown_i hE2 hO2 (Nat.le_refl _) hg, by rw [Hst.out]; exact hO4⟩
              case measure => simp [intOf]; omega
        · obtain rfl : n = t := by omega
          have hpos := ownC_pos (hrefl k) hlt
          have hln := ownC_len R k n
          have hst : compsM R n (k + 1) = if nth (ownC R k n) 0 = (k : Int) then compsM R n k ++ [ownC R k n] else compsM R n k := rfl
          obtain ⟨a', cap', rfl, _⟩ := hO2.at
          obtain ⟨g, rfl, hBg, hgs, hce, -⟩ := hO2.open hpos
          have c0 := hce 0 hpos
          have hcl := compsM_len R n k
          clear hce
          generalize ownC R k n = L at *
          by_cases hz : nth L 0 = (k : Int)
          · rw [if_pos hz] at hst
            rw [hz] at c0
            have Hst := Lib.hid hst
            have hl : (compsM R n k).length ≤ 1000000000 := by omega
            have hE3 := hE2.alloc (.cells #[.slice (some ⟨g, 0, none⟩) L.length cap'] 34)
            clear hz hst
            go_wp2_with (at_builtin; refine app_m rfl _ _ rfl w1.heap.size _ _ rfl hO hE3 ⟨wr.heap.size, 0, none⟩ 1 (some ⟨g, 0, none⟩) cap' L rfl (cell_one _ _ _) (hO2.ext ((Ext.refl wr).alloc _)) hl hE.size ?_)
            intro v' w' hO4 hg
            go_wp2
            go_roundw
            case rel => exact ⟨k + 1, by omega, by go_num, grown_m (hE.trans hE2) (hO.ext hE2) (Nat.le_refl _) hg, by rw [Hst.out]; exact hO4⟩
            case measure => simp [intOf]; omega
          · rw [if_neg hz] at hst
            have hb : (nth L 0 == (k : Int)) = false := by rw [beq_eq_false_iff_ne]; exact hz
            have Hst := Lib.hid hst
            clear hz hst
            go_wp2
            go_roundw
            case rel => exact ⟨k + 1, by omega, by go_num, hE.trans hE2, by rw [Hst.out]; exact hO.ext hE2⟩
            case measure => simp [intOf]; omega
    · obtain rfl : n = k := by omega
      go_wp2
      go_ret
      obtain ⟨a', cap', rfl, _⟩ := hO.at
      exact ⟨a', cap', rfl, hO.mono hEr.size, hEr.trans hE⟩
end Go.Proofs.Ytokhkpbebimohaa
