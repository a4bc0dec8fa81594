/- Several texts in one: M1 M2 M3 M4 M5. -/
import Derived.Test.YtokhkpbebimohaaGB
import Derived.Test.YtokhkpbebimohaaGP
import Derived.Test.YtokhkpbebimohaaGS
/- Contracts of the functions over one list of integers that only read. No condition but the sizes. -/
namespace Go.Proofs.Ytokhkpbebimohaa
set_option linter.unusedVariables false
open Go.RowKit

theorem areValuesF_c (n : Int) (w : World) : Calls Try.prog 159 #[.int .i64 n] w fun e w' => e = .returned (.bool (!isVal n)) ∧ w = w' := by
  go_enter Try.func159, Try.ntmps159
  go_wp2_with (go_at_call 140; refine (isValue_c _ _).mono ?_; rintro e w' ⟨rfl, rfl⟩)
  go_ret
  exact ⟨rfl, rfl⟩

theorem indexNV_c (a : Option Addr) (cap : Nat) (xs : List Int) (w : World) (h : IntsAt w a xs) :
    Calls Try.prog 168 #[.slice a xs.length cap, .func (.func 159) #[] #[]] w fun e w' => ∃ r : Int, e = .returned (.int .i64 r) ∧ decide (0 ≤ r) = (!allV xs) ∧ w = w' := by
  have hlen := h.len
  go_enter Try.func168, Try.ntmps168
  go_wp2
  go_loop [8] (fun i => ∃ k : Nat, k ≤ xs.length ∧ i = .int .i64 k ∧ Hid (∀ j, j < k → isVal (nth xs j) = true)) (fun i => xs.length - (intOf i).toNat)
  case atStart => exact ⟨0, Nat.zero_le _, rfl, fun j hj => absurd hj (Nat.not_lt_zero _)⟩
  case round =>
    obtain ⟨k, hk, rfl, hj⟩ := hrel
    by_cases hlt : k < xs.length
    · obtain ⟨b, o, rfl, hc⟩ := h.at hlt
      have c1 := hc k hlt
      clear hc
      cases hv : isVal (nth xs k)
      · have Hv := Lib.hid hv
        have hn : (!isVal (nth xs k)) = true := by rw [hv]; rfl
        clear hv
        go_wp2_with fail
        refine (asB hn (areValuesF_c _ _)).mono ?_
        rintro e w' ⟨rfl, rfl⟩
        go_wp2
        go_ret
        exact ⟨k, rfl, by rw [allV_no hlt Hv.out]; simp, rfl⟩
      · have Hv := Lib.hid hv
        have hn : (!isVal (nth xs k)) = false := by rw [hv]; rfl
        clear hv
        go_wp2_with fail
        refine (asB hn (areValuesF_c _ _)).mono ?_
        rintro e w' ⟨rfl, rfl⟩
        go_wp2
        go_round
        case rel => exact ⟨k + 1, by omega, by go_num, fun j h => by
          by_cases e : j = k
          · subst e; exact Hv.out
          · exact hj.out j (by omega)⟩
        case measure => simp [intOf]; omega
    · go_wp2
      go_ret
      exact ⟨-1, rfl, by rw [allV_iff.2 fun i hi => hj.out i (by omega)]; rfl, rfl⟩

theorem areValues_c (a : Option Addr) (cap : Nat) (xs : List Int) (w : World) (h : IntsAt w a xs) :
    Calls Try.prog 127 #[.slice a xs.length cap] w fun e w' => e = .returned (.bool (allV xs)) ∧ w = w' := by
  have hC : Calls Try.prog 158 #[.slice a xs.length cap, .func (.func 159) #[] #[]] w fun e w' => e = .returned (.bool (!allV xs)) ∧ w = w' := by
    go_enter Try.func158, Try.ntmps158
    go_wp2_with fail
    refine (indexNV_c _ _ _ _ h).mono ?_
    rintro e w' ⟨r, rfl, hr, rfl⟩
    have Hr := Lib.hid hr
    clear hr
    go_wp2
    go_ret
    exact ⟨ret_bool Hr.out, rfl⟩
  have HC := Lib.hid hC
  clear hC
  go_enter Try.func127, Try.ntmps127
  go_wp2_with fail
  refine HC.out.mono ?_
  rintro e w' ⟨rfl, rfl⟩
  go_wp2
  go_ret
  exact ⟨ret_bool (by simp), rfl⟩

theorem l01All_c (a : Option Addr) (cap : Nat) (xs : List Int) (w : World) (h : IntsAt w a xs) :
    Calls Try.prog 119 #[.slice a xs.length cap, .bool false] w fun e w' => e = .returned (.bool (allV xs)) ∧ w = w' := by
  have hlen := h.len
  go_enter Try.func119, Try.ntmps119
  go_wp2
  go_loop [5] (fun i => ∃ k : Nat, k ≤ xs.length ∧ i = .int .i64 k ∧ Hid (∀ j, j < k → isVal (nth xs j) = true)) (fun i => xs.length - (intOf i).toNat)
  case atStart => exact ⟨0, Nat.zero_le _, rfl, fun j hj => absurd hj (Nat.not_lt_zero _)⟩
  case round =>
    obtain ⟨k, hk, rfl, hj⟩ := hrel
    by_cases hlt : k < xs.length
    · obtain ⟨b, o, rfl, hc⟩ := h.at hlt
      have c1 := hc k hlt
      clear hc
      cases hv : isVal (nth xs k)
      · have Hv := Lib.hid hv
        clear hv
        go_wp2_with fail
        refine (asB Hv.out (sIsValue_c _ _)).mono ?_
        rintro e w' ⟨rfl, rfl⟩
        go_wp2
        go_ret
        exact ⟨ret_bool (by rw [allV_no hlt Hv.out]), rfl⟩
      · have Hv := Lib.hid hv
        clear hv
        go_wp2_with fail
        refine (asB Hv.out (sIsValue_c _ _)).mono ?_
        rintro e w' ⟨rfl, rfl⟩
        go_wp2
        go_round
        case rel => exact ⟨k + 1, by omega, by go_num, fun j h => by
          by_cases e : j = k
          · subst e; exact Hv.out
          · exact hj.out j (by omega)⟩
        case measure => simp [intOf]; omega
    · go_wp2
      go_ret
      exact ⟨ret_bool (by rw [allV_iff.2 fun i hi => hj.out i (by omega)]), rfl⟩

theorem l01AllF_c (a : Option Addr) (cap : Nat) (xs : List Int) (w : World) (h : IntsAt w a xs) :
    Calls Try.prog 119 #[.slice a xs.length cap, .bool true] w fun e w' => e = .returned (.bool (allF xs)) ∧ w = w' := by
  have hlen := h.len
  go_enter Try.func119, Try.ntmps119
  go_wp2
  go_loop [5] (fun i => ∃ k : Nat, k ≤ xs.length ∧ i = .int .i64 k ∧ Hid (∀ j, j < k → fin (nth xs j) = true)) (fun i => xs.length - (intOf i).toNat)
  case atStart => exact ⟨0, Nat.zero_le _, rfl, fun j hj => absurd hj (Nat.not_lt_zero _)⟩
  case round =>
    obtain ⟨k, hk, rfl, hj⟩ := hrel
    by_cases hlt : k < xs.length
    · obtain ⟨b, o, rfl, hc⟩ := h.at hlt
      have c1 := hc k hlt
      clear hc
      cases hv : isVal (nth xs k)
      · have Hv := Lib.hid hv
        clear hv
        go_wp2_with fail
        refine (asB Hv.out (sIsValue_c _ _)).mono ?_
        rintro e w' ⟨rfl, rfl⟩
        go_wp2
        go_ret
        exact ⟨ret_bool (by rw [allF_no hlt (by have := Hv.out; simp [isVal] at this; exact this.2)]), rfl⟩
      · have Hv := Lib.hid hv
        clear hv
        by_cases hb : nth xs k = -1000000000000000
        · have hb' : (nth xs k == -1000000000000000) = true := by simpa using hb
          have Hb := Lib.hid hb
          clear hb
          go_wp2_with fail
          refine (asB Hv.out (sIsValue_c _ _)).mono ?_
          rintro e w' ⟨rfl, rfl⟩
          go_wp2
          go_ret
          exact ⟨ret_bool (by rw [allF_no hlt (by rw [Hb.out]; decide)]), rfl⟩
        · have hb' : (nth xs k == -1000000000000000) = false := by simpa using hb
          have Hb := Lib.hid hb
          clear hb
          go_wp2_with fail
          refine (asB Hv.out (sIsValue_c _ _)).mono ?_
          rintro e w' ⟨rfl, rfl⟩
          go_wp2
          go_round
          case rel => exact ⟨k + 1, by omega, by go_num, fun j h => by
            by_cases e : j = k
            · subst e
              rcases isVal_iff.1 Hv.out with e | e
              · exact absurd e Hb.out
              · exact fin_iff.2 e
            · exact hj.out j (by omega)⟩
          case measure => simp [intOf]; omega
    · go_wp2
      go_ret
      exact ⟨ret_bool (by rw [allF_iff.2 fun i hi => hj.out i (by omega)]), rfl⟩

end Go.Proofs.Ytokhkpbebimohaa

/- Contracts of the functions that make matrices. -/
namespace Go.Proofs.Ytokhkpbebimohaa
set_option linter.unusedVariables false
open Go.RowKit

set_option maxHeartbeats 1000000 in
set_option maxRecDepth 100000 in
theorem matrixBy_c (F : FuncId) (caps : Array Value) (m n : Nat) (f : Nat → Nat → Int) (w : World) (hm : m ≤ 100) (hn : n ≤ 100) (hcf : ∀ args w, Sem.run Try.prog (callFunc F args) w = .ok (.enter F args) w)
    (hF : ∀ (i j : Nat) w', i < m → j < n → Ext w w' → Calls Try.prog F (#[.int .i64 (i : Int), .int .i64 (j : Int)] ++ caps) w' fun e w'' => e = .returned (.int .i64 (f i j)) ∧ Qt w' w'') :
    Calls Try.prog 128 #[.int .i64 m, .int .i64 n, .func (.func F) #[] caps] w (GivesM w (mkMat m n f)) := by
  have HF := Lib.hid hF
  clear hF
  have hmk1 := run_make_row' (P := Try.prog) 24 34 (.slice none 0 0) 24 Try.underlying24 info_l rfl .i64 .i64 m (by omega) (by omega)
  have hmk2 := run_make_row' (P := Try.prog) 34 2 (.int .i64 0) 8 Try.underlying34 info_i rfl .i64 .i64 n (by omega) (by omega)
  have hE0 := (Ext.refl w).alloc (.cells (madeCells #[.slice none 0 0] m) 34)
  have hM0 := Mat.made (B := w.heap.size) w m (Nat.le_refl _) (by omega)
  go_enter Try.func128, Try.ntmps128
  go_wp2
  go_loopw [14] (fun i wr => ∃ (k : Nat) (A : Nat → Option Addr) (C : Nat → Nat) (M : List (List Int)), k ≤ m ∧ i = .int .i64 k ∧ Ext w wr ∧ Mat wr w.heap.size w.heap.size m A C M ∧ Hid (M.length = m ∧ ∀ j, j < k → row M j = mkRow n (f j))) (fun i _ => m - (intOf i).toNat)
  case atStart => exact ⟨0, _, _, _, Nat.zero_le _, rfl, hE0, hM0, by simp, fun j hj => absurd hj (Nat.not_lt_zero _)⟩
  case round =>
    obtain ⟨k, A, C, M, hk, rfl, hE, hM, hj⟩ := hrel
    clear hE0 hM0 hmk1
    obtain ⟨wo, rfl⟩ : ∃ wo, wo = wr := ⟨_, rfl⟩
    by_cases hlt : k < m
    · have hkM : k < M.length := by rw [hj.out.1]; exact hlt
      have hS := hE.size
      -- the new row
      obtain ⟨W1, hW1⟩ : ∃ W1, wo.alloc (.cells (madeCells #[.int .i64 0] n) 2) = W1 := ⟨_, rfl⟩
      have hO1 := OwnI.made wo wo.heap.size n (Nat.le_refl _) (by omega)
      have hE1 := (Ext.refl wo).alloc (.cells (madeCells #[.int .i64 0] n) 2)
      rw [hW1] at hO1 hE1
      have c0 := (hM.ext hE1).cell hkM
      have f0 := (hM.ext hE1).frozen k
      obtain ⟨W2, hW2⟩ : ∃ W2, W1.setCell ⟨w.heap.size, k, none⟩ (.slice (some ⟨wo.heap.size, 0, none⟩) n n) = W2 := ⟨_, rfl⟩
      have hM2 := (hM.ext hE1).setRow (a := some ⟨wo.heap.size, 0, none⟩) (c := n) hkM hE1.size hM.lt (fun i r o hi hA => by
        have := hM.own i hi
        rw [hA] at this
        exact (this.lt (k := r) rfl).2) hO1 hE.size
      have hE2 := ((hE.trans hE1).set (p := ⟨w.heap.size, k, none⟩) (Nat.le_refl _) (.slice (some ⟨wo.heap.size, 0, none⟩) n n))
      rw [List.length_replicate, hW2] at hM2
      rw [hW2] at hE2
      have c1 : W2.cell? ⟨w.heap.size, k, none⟩ = some (.slice (some ⟨wo.heap.size, 0, none⟩) n n) := by
        have := hM2.cell (i := k) (by simpa using hkM)
        rw [row_set _ _ _ _ hkM] at this
        simpa using this
      have hj2 : Hid ((M.set k (List.replicate n 0)).length = m ∧ (∀ j, j < k → row (M.set k (List.replicate n 0)) j = mkRow n (f j)) ∧ (row (M.set k (List.replicate n 0)) k).length = n) :=
        ⟨by simpa using hj.out.1, fun j h => by rw [row_set _ _ _ _ hkM, if_neg (by omega)]; exact hj.out.2 j h, by rw [row_set _ _ _ _ hkM]; simp⟩
      have hA2 : (fun i => if i = k then some (⟨wo.heap.size, 0, none⟩ : Addr) else A i) k = some ⟨wo.heap.size, 0, none⟩ := by simp
      generalize (fun i => if i = k then some (⟨wo.heap.size, 0, none⟩ : Addr) else A i) = A2 at *
      generalize (fun i => if i = k then n else C i) = C2 at *
      generalize M.set k (List.replicate n 0) = M2 at *
      have HA2 := Lib.hid hA2
      clear hA2 hM hj hE1 hO1
      go_wp2
      clear hmk2 c0 f0 hW1 hW2 c1
      go_loopw [27] (fun i wi => ∃ (t : Nat) (M3 : List (List Int)), t ≤ n ∧ i = .int .i64 t ∧ Ext w wi ∧ Mat wi w.heap.size w.heap.size m A2 C2 M3 ∧ Hid (M3.length = m ∧ (∀ j, j < k → row M3 j = mkRow n (f j)) ∧ (row M3 k).length = n ∧ ∀ j, j < t → nth (row M3 k) j = f k j)) (fun i _ => n - (intOf i).toNat)
      case atStart => exact ⟨0, M2, Nat.zero_le _, rfl, hE2, hM2, hj2.out.1, hj2.out.2.1, hj2.out.2.2, fun j hj => absurd hj (Nat.not_lt_zero _)⟩
      case round =>
        obtain ⟨t, M3, ht, rfl, hE3, hM3, hj3⟩ := hrel
        clear hE2 hM2
        by_cases hltn : t < n
        · have hkM3 : k < M3.length := by rw [hj3.out.1]; exact hlt
          have hl3 : (row M3 k).length = n := hj3.out.2.2.1
          obtain ⟨r, hr, hBr, hrs, hce, hfe⟩ := hM3.addr hkM3 (by rw [hl3]; omega)
          rw [HA2.out] at hr
          obtain rfl : wo.heap.size = r := by simpa using hr
          have c1 := hM3.cell hkM3
          rw [hl3, HA2.out] at c1
          have c2 := hce t (by rw [hl3]; exact hltn)
          have f2 := hfe t
          clear hce hfe
          go_wp2_with fail
          refine region_qt_lit 10 (by kernel_rfl) (by kernel_rfl) ?_
          simp only [List.take_succ_cons, List.take_zero, List.drop_succ_cons, List.drop_zero]
          repeat (go_big_quiet_step ((refine quiet_call (HF.out _ _ _ hlt hltn (hE3.drewN _)))))
          refine wpQuiet_nil ?_
          intro _ hw'
          obtain ⟨nq, hw''⟩ := hw'
          subst hw''
          go_wp2
          go_roundw
          case rel =>
            have hA : A2 k = some ⟨wo.heap.size, 0, none⟩ := HA2.out
            refine ⟨t + 1, M3.set k ((row M3 k).set t (f k t)), by omega, by go_num, ?_, ?_, ⟨by simpa using hj3.out.1, fun j h => ?_, ?_, fun j h => ?_⟩⟩
            · repeat (first | exact hE3 | refine Ext.drewN ?_ _ | refine Ext.drew ?_ | refine Ext.set ?_ (by show w.heap.size ≤ wo.heap.size; exact hS) _)
            · exact (hM3.set hkM3 hA t (f k t)).ext ⟨rfl, rfl, rfl, Nat.le_refl _, fun _ _ => rfl⟩
            · rw [row_set _ _ _ _ hkM3, if_neg (by omega)]; exact hj3.out.2.1 j h
            · rw [row_set _ _ _ _ hkM3]; simpa using hl3
            · rw [row_set _ _ _ _ hkM3, if_pos rfl, nth_set _ _ _ _ (by rw [hl3]; exact hltn)]
              by_cases e : j = t
              · subst e; rw [if_pos rfl]
              · rw [if_neg e]; exact hj3.out.2.2.2 j (by omega)
          case measure => simp [intOf]; omega
        · obtain rfl : n = t := by omega
          go_wp2
          go_roundw
          case rel => exact ⟨k + 1, A2, C2, M3, by omega, by go_num, hE3, hM3, hj3.out.1, fun j h => by
            by_cases e : j = k
            · subst e; exact mkRow_eq hj3.out.2.2.1 hj3.out.2.2.2
            · exact hj3.out.2.1 j (by omega)⟩
          case measure => simp [intOf]; omega
    · obtain rfl : m = k := by omega
      go_wp2
      go_ret
      have e : M = mkMat m n f := list_ext_row (by rw [mkMat_len]; exact hj.out.1) fun i hi => by rw [mkMat_row (by rw [← hj.out.1]; exact hi)]; exact hj.out.2 i (by rw [← hj.out.1]; exact hi)
      have hl : (mkMat m n f).length = m := mkMat_len _ _ _
      subst e
      refine ⟨some ⟨w.heap.size, 0, none⟩, m, ?_, .inr ⟨w.heap.size, m, A, C, rfl, hM⟩, hE⟩
      rw [hl]; rfl

end Go.Proofs.Ytokhkpbebimohaa

/- Contracts of the functions that make matrices out of entries. Conditions: the forms of the matrices. -/
namespace Go.Proofs.Ytokhkpbebimohaa
set_option linter.unusedVariables false
open Go.RowKit

theorem unitF_c (i j : Nat) (w : World) : Calls Try.prog 129 #[.int .i64 (i : Int), .int .i64 (j : Int)] w fun e w' => e = .returned (.int .i64 (unitF i j)) ∧ Qt w w' := by
  by_cases h : i = j
  · subst h
    go_enter Try.func129, Try.ntmps129
    go_wp2
    go_ret
    exact ⟨ret_int (by simp [unitF]), Qt.refl _⟩
  · have h' : ((i : Int) == (j : Int)) = false := by rw [beq_eq_false_iff_ne]; omega
    have H := Lib.hid h
    clear h
    go_enter Try.func129, Try.ntmps129
    go_wp2
    go_ret
    exact ⟨ret_int (by simp [unitF, H.out]), Qt.refl _⟩
theorem unitF_enter (args : Array Value) (w : World) : Sem.run Try.prog (callFunc 129 args) w = .ok (.enter 129 args) w := by
  simp [callFunc, Try.func129, Try.f129]

theorem unitMatrix_c (n : Nat) (w : World) (hn : n ≤ 100) : Calls Try.prog 77 #[.int .i64 (n : Int)] w (GivesM w (mkMat n n unitF)) := by
  have H := Lib.hid (matrixBy_c 129 #[] n n unitF w hn hn unitF_enter (fun i j w' _ _ _ => unitF_c i j w'))
  go_enter Try.func77, Try.ntmps77
  go_wp2_with fail
  refine H.out.mono ?_
  rintro e w' ⟨a, cap, rfl, h1, h2⟩
  go_wp2
  go_ret
  exact ⟨a, cap, rfl, h1, h2⟩

theorem bottomF_c (i j : Nat) (w : World) : Calls Try.prog 133 #[.int .i64 (i : Int), .int .i64 (j : Int)] w fun e w' => e = .returned (.int .i64 (-1000000000000000)) ∧ Qt w w' := by
  go_enter Try.func133, Try.ntmps133
  go_wp2
  go_ret
  exact ⟨rfl, Qt.refl _⟩
theorem bottomF_enter (args : Array Value) (w : World) : Sem.run Try.prog (callFunc 133 args) w = .ok (.enter 133 args) w := by
  simp [callFunc, Try.func133, Try.f133]
theorem bottomMatrix_c (m n : Nat) (w : World) (hm : m ≤ 100) (hn : n ≤ 100) : Calls Try.prog 84 #[.int .i64 (m : Int), .int .i64 (n : Int)] w (GivesM w (mkMat m n fun _ _ => -1000000000000000)) := by
  have H := Lib.hid (matrixBy_c 133 #[] m n (fun _ _ => -1000000000000000) w hm hn bottomF_enter (fun i j w' _ _ _ => bottomF_c i j w'))
  go_enter Try.func84, Try.ntmps84
  go_wp2_with fail
  refine H.out.mono ?_
  rintro e w' ⟨a, cap, rfl, h1, h2⟩
  go_wp2
  go_ret
  exact ⟨a, cap, rfl, h1, h2⟩

theorem transF_c (bx : Nat) (a : Option Addr) (cap n : Nat) (m : List (List Int)) (i j : Nat) (w : World) (hb : w.cell? ⟨bx, 0, none⟩ = some (.slice a m.length cap)) (hm : MatAt w a m) (hr : Rect m m.length n) (hi : i < n) (hj : j < m.length) :
    Calls Try.prog 162 #[.int .i64 (i : Int), .int .i64 (j : Int), .pointer (some ⟨bx, 0, none⟩)] w fun e w' => e = .returned (.int .i64 (ent m j i)) ∧ Qt w w' := by
  have hlen := hm.len
  obtain ⟨b, o, rfl, hc⟩ := hm.at hj
  obtain ⟨ai, ci, c1, hx, _⟩ := hc j hj
  have hrj := hr.2 j hj
  rw [hrj] at c1
  have hn := hx.len
  rw [hrj] at hn
  obtain ⟨b2, o2, rfl, hc2⟩ := hx.at (i := i) (by rw [hrj]; exact hi)
  have c2 : w.cell? ⟨b2, o2 + i, none⟩ = some (.int .i64 (ent m j i)) := hc2 i (by rw [hrj]; exact hi)
  clear hc hc2 hrj hm hx
  go_enter Try.func162, Try.ntmps162
  go_wp2
  go_ret
  exact ⟨rfl, Qt.refl _⟩
theorem transF_enter (args : Array Value) (w : World) : Sem.run Try.prog (callFunc 162 args) w = .ok (.enter 162 args) w := by
  simp [callFunc, Try.func162, Try.f162]

set_option maxHeartbeats 400000 in
theorem transposed_c (a : Option Addr) (cap n : Nat) (m : List (List Int)) (w : World) (hm : MatAt w a m) (hr : Rect m m.length n) (h0 : 0 < m.length) (h1 : m.length ≤ 100) (hn : n ≤ 100) :
    Calls Try.prog 139 #[.slice a m.length cap] w (GivesM w (mkMat n m.length fun i j => ent m j i)) := by
  obtain ⟨W, hW⟩ : ∃ W, w.alloc (.cells #[.slice a m.length cap] 24) = W := ⟨_, rfl⟩
  have hE : Ext w W := by rw [← hW]; exact (Ext.refl w).alloc _
  have hb : W.cell? ⟨w.heap.size, 0, none⟩ = some (.slice a m.length cap) := by rw [← hW]; simp
  have hm' := hm.mono hE
  have H := Lib.hid (fun (W' : World) (hq : Ext W W') => matrixBy_c 162 #[.pointer (some ⟨w.heap.size, 0, none⟩)] n m.length (fun i j => ent m j i) W' hn h1 transF_enter
    (fun i j w' hi hj hE' => transF_c w.heap.size a cap n m i j w' (hE'.cell (hq.cell hb)) ((hm'.mono hq).mono hE') hr hi hj))
  obtain ⟨b, o, rfl, hc⟩ := hm'.at h0
  obtain ⟨ai, ci, c1, hx, _⟩ := hc 0 h0
  rw [hr.2 0 h0, Nat.add_zero] at c1
  have hz : (0 : Int) < (m.length : Int) := by omega
  clear hc hm hm' hx
  go_enter Try.func139, Try.ntmps139
  go_wp2_with fail
  refine region_qt_lit 7 (by kernel_rfl) (by kernel_rfl) ?_
  simp only [List.take_succ_cons, List.take_zero, List.drop_succ_cons, List.drop_zero]
  repeat (go_big_quiet_step ((fail)))
  refine wpQuiet_nil ?_
  intro _ hw'
  obtain ⟨nq, hw''⟩ := hw'
  subst hw''
  go_wp2_with fail
  refine (H.out _ ((Ext.refl W).drewN _)).mono ?_
  rintro e w' ⟨a', cap', rfl, h1, h2⟩
  go_wp2
  go_ret
  exact ⟨a', cap', rfl, h1.mono (by have := hE.size; simpa using this), hE.trans (((Ext.refl W).drewN _).trans h2)⟩

theorem addF_c (b1 b2 : Nat) (a b : Option Addr) (ca cb m n : Nat) (x y : List (List Int)) (i j : Nat) (w : World) (h1 : w.cell? ⟨b1, 0, none⟩ = some (.slice a x.length ca)) (h2 : w.cell? ⟨b2, 0, none⟩ = some (.slice b y.length cb))
    (hx : MatAt w a x) (hy : MatAt w b y) (rx : Rect x m n) (ry : Rect y m n) (hi : i < m) (hj : j < n) :
    Calls Try.prog 160 #[.int .i64 (i : Int), .int .i64 (j : Int), .pointer (some ⟨b1, 0, none⟩), .pointer (some ⟨b2, 0, none⟩)] w fun e w' => e = .returned (.int .i64 (addE x y i j)) ∧ Qt w w' := by
  obtain ⟨hlx, hrx⟩ := rx
  obtain ⟨hly, hry⟩ := ry
  rw [hlx] at h1
  rw [hly] at h2
  have hlen := hx.len
  rw [hlx] at hlen
  obtain ⟨p, o, rfl, hc⟩ := hx.at (i := i) (by omega)
  obtain ⟨ai, ci, c1, hx1, _⟩ := hc i (by omega)
  obtain ⟨q, o', rfl, hd⟩ := hy.at (i := i) (by omega)
  obtain ⟨bi, di, d1, hy1, _⟩ := hd i (by omega)
  rw [hrx i hi] at c1
  rw [hry i hi] at d1
  have hn := hx1.len
  rw [hrx i hi] at hn
  obtain ⟨p2, o2, rfl, hc2⟩ := hx1.at (i := j) (by rw [hrx i hi]; exact hj)
  have c2 : w.cell? ⟨p2, o2 + j, none⟩ = some (.int .i64 (ent x i j)) := hc2 j (by rw [hrx i hi]; exact hj)
  obtain ⟨q2, o3, rfl, hd2⟩ := hy1.at (i := j) (by rw [hry i hi]; exact hj)
  have d2 : w.cell? ⟨q2, o3 + j, none⟩ = some (.int .i64 (ent y i j)) := hd2 j (by rw [hry i hi]; exact hj)
  clear hc hc2 hd hd2 hx hx1 hy hy1 hlx hly hrx hry
  unfold addE
  go_enter Try.func160, Try.ntmps160
  go_wp2_with fail
  go_region
  all_goals go_wp2
  all_goals go_ret
  all_goals exact ⟨ret_int (by omega), by first | exact (Qt.refl _).drew | exact Qt.refl _ | exact (Qt.refl _).drewN _⟩
theorem addF_enter (args : Array Value) (w : World) : Sem.run Try.prog (callFunc 160 args) w = .ok (.enter 160 args) w := by
  simp [callFunc, Try.func160, Try.f160]

set_option maxHeartbeats 400000 in
theorem addMatrices_c (a b : Option Addr) (ca cb m n : Nat) (x y : List (List Int)) (w : World) (hx : MatAt w a x) (hy : MatAt w b y) (rx : Rect x m n) (ry : Rect y m n) (h0 : 0 < m) (hm : m ≤ 100) (hn : n ≤ 100) :
    Calls Try.prog 136 #[.slice a x.length ca, .slice b y.length cb] w (GivesM w (mkMat m n (addE x y))) := by
  obtain ⟨W1, hW1⟩ : ∃ W, w.alloc (.cells #[.slice a x.length ca] 24) = W := ⟨_, rfl⟩
  have hE1 : Ext w W1 := by rw [← hW1]; exact (Ext.refl w).alloc _
  have hb1 : W1.cell? ⟨w.heap.size, 0, none⟩ = some (.slice a x.length ca) := by rw [← hW1]; simp
  obtain ⟨W, hW⟩ : ∃ W, W1.alloc (.cells #[.slice b y.length cb] 24) = W := ⟨_, rfl⟩
  have hE2 : Ext W1 W := by rw [← hW]; exact (Ext.refl W1).alloc _
  have hb2 : W.cell? ⟨W1.heap.size, 0, none⟩ = some (.slice b y.length cb) := by rw [← hW]; simp
  have hb1' := hE2.cell hb1
  have hE := hE1.trans hE2
  have hx' := hx.mono hE
  have hy' := hy.mono hE
  have H := Lib.hid (fun (W' : World) (hq : Ext W W') => matrixBy_c 160 #[.pointer (some ⟨w.heap.size, 0, none⟩), .pointer (some ⟨W1.heap.size, 0, none⟩)] m n (addE x y) W' hm hn addF_enter
    (fun i j w' hi hj hE' => addF_c w.heap.size W1.heap.size a b ca cb m n x y i j w' (hE'.cell (hq.cell hb1')) (hE'.cell (hq.cell hb2)) ((hx'.mono hq).mono hE') ((hy'.mono hq).mono hE') rx ry hi hj))
  have hlx := rx.1
  obtain ⟨p, o, rfl, hc⟩ := hx'.at (i := 0) (by omega)
  obtain ⟨ai, ci, c1, hxx, _⟩ := hc 0 (by omega)
  rw [rx.2 0 h0, Nat.add_zero] at c1
  rw [hlx] at hb1' hW1 ⊢
  have hz : (0 : Int) < (m : Int) := by omega
  clear hc hx hy hx' hy' hxx hE1 hE2 hb1 hlx
  go_enter Try.func136, Try.ntmps136
  go_wp2_with fail
  refine region_qt_lit 7 (by kernel_rfl) (by kernel_rfl) ?_
  simp only [List.take_succ_cons, List.take_zero, List.drop_succ_cons, List.drop_zero]
  repeat (go_big_quiet_step ((fail)))
  refine wpQuiet_nil ?_
  intro _ hw'
  obtain ⟨nq, hw''⟩ := hw'
  subst hw''
  go_wp2_with fail
  refine (H.out _ ((Ext.refl W).drewN _)).mono ?_
  rintro e w' ⟨a', cap', rfl, h1, h2⟩
  go_wp2
  go_ret
  exact ⟨a', cap', rfl, h1.mono (by have := hE.size; simpa using this), hE.trans (((Ext.refl W).drewN _).trans h2)⟩

end Go.Proofs.Ytokhkpbebimohaa

/- Contracts of the functions that ask whether lists are matrices. No condition but the sizes. -/
namespace Go.Proofs.Ytokhkpbebimohaa
set_option linter.unusedVariables false
open Go.RowKit

theorem indexM_c (F : FuncId) (caps : Array Value) (p : List Int → Bool) (a : Option Addr) (cap : Nat) (m : List (List Int)) (w : World) (h : MatAt w a m)
    (hcf : ∀ args w, Sem.run Try.prog (callFunc F args) w = .ok (.enter F args) w)
    (hF : ∀ i ai ci, i < m.length → IntsAt w ai (row m i) → Calls Try.prog F (#[.slice ai (row m i).length ci] ++ caps) w fun e w' => e = .returned (.bool (p (row m i))) ∧ w = w') :
    Calls Try.prog 157 #[.slice a m.length cap, .func (.func F) #[] caps] w fun e w' => ∃ r : Int, e = .returned (.int .i64 r) ∧ decide (0 ≤ r) = m.any p ∧ w = w' := by
  have HF := Lib.hid hF
  clear hF
  have hlen := h.len
  go_enter Try.func157, Try.ntmps157
  go_wp2
  go_loop [8] (fun i => ∃ k : Nat, k ≤ m.length ∧ i = .int .i64 k ∧ Hid (∀ j, j < k → p (row m j) = false)) (fun i => m.length - (intOf i).toNat)
  case atStart => exact ⟨0, Nat.zero_le _, rfl, fun j hj => absurd hj (Nat.not_lt_zero _)⟩
  case round =>
    obtain ⟨k, hk, rfl, hj⟩ := hrel
    by_cases hlt : k < m.length
    · obtain ⟨b, o, rfl, hc⟩ := h.at hlt
      obtain ⟨ai, ci, c1, hx, _⟩ := hc k hlt
      clear hc
      cases hv : p (row m k)
      · have Hv := Lib.hid hv
        clear hv
        go_wp2_with fail
        refine (asB Hv.out (HF.out k ai ci hlt hx)).mono ?_
        rintro e w' ⟨rfl, rfl⟩
        go_wp2
        go_round
        case rel => exact ⟨k + 1, by omega, by go_num, fun j h => by
          by_cases e : j = k
          · subst e; exact Hv.out
          · exact hj.out j (by omega)⟩
        case measure => simp [intOf]; omega
      · have Hv := Lib.hid hv
        clear hv
        go_wp2_with fail
        refine (asB Hv.out (HF.out k ai ci hlt hx)).mono ?_
        rintro e w' ⟨rfl, rfl⟩
        go_wp2
        go_ret
        exact ⟨k, rfl, by rw [any_iff_row hlt Hv.out]; simp, rfl⟩
    · go_wp2
      go_ret
      exact ⟨-1, rfl, by rw [any_no_row fun i hi => hj.out i (by omega)]; rfl, rfl⟩

theorem containsM_c (F : FuncId) (caps : Array Value) (p : List Int → Bool) (a : Option Addr) (cap : Nat) (m : List (List Int)) (w : World) (h : MatAt w a m)
    (hcf : ∀ args w, Sem.run Try.prog (callFunc F args) w = .ok (.enter F args) w)
    (hF : ∀ i ai ci, i < m.length → IntsAt w ai (row m i) → Calls Try.prog F (#[.slice ai (row m i).length ci] ++ caps) w fun e w' => e = .returned (.bool (p (row m i))) ∧ w = w') :
    Calls Try.prog 125 #[.slice a m.length cap, .func (.func F) #[] caps] w fun e w' => e = .returned (.bool (m.any p)) ∧ w = w' := by
  have H := Lib.hid (indexM_c F caps p a cap m w h hcf hF)
  clear hF hcf
  go_enter Try.func125, Try.ntmps125
  go_wp2_with fail
  refine H.out.mono ?_
  rintro e w' ⟨r, rfl, hr, rfl⟩
  have Hr := Lib.hid hr
  clear hr
  go_wp2
  go_ret
  exact ⟨ret_bool Hr.out, rfl⟩

theorem isMatF_c (bx : Nat) (a ai : Option Addr) (cap ci : Nat) (m : List (List Int)) (r : List Int) (w : World) (hb : w.cell? ⟨bx, 0, none⟩ = some (.slice a m.length cap)) (hm : MatAt w a m) (h0 : 0 < m.length) (hx : IntsAt w ai r) :
    Calls Try.prog 126 #[.slice ai r.length ci, .pointer (some ⟨bx, 0, none⟩)] w fun e w' => e = .returned (.bool (rowBad (row m 0).length r)) ∧ w = w' := by
  obtain ⟨b, o, rfl, hc⟩ := hm.at h0
  obtain ⟨a0, c0, d0, hx0, _⟩ := hc 0 h0
  rw [Nat.add_zero] at d0
  have hz : (0 : Int) < (m.length : Int) := by omega
  clear hc
  have hl0 := hx0.len
  have hl := hx.len
  by_cases hl : r.length = (row m 0).length
  · have hl' : ((r.length : Int) != ((row m 0).length : Int)) = false := by simp [hl]
    have Hl := Lib.hid hl
    clear hl
    go_enter Try.func126, Try.ntmps126
    go_wp2_with fail
    refine (areValues_c _ _ _ _ hx).mono ?_
    rintro e w' ⟨rfl, rfl⟩
    go_wp2
    go_ret
    exact ⟨ret_bool (by simp [rowBad, Hl.out]), rfl⟩
  · have hl' : ((r.length : Int) != ((row m 0).length : Int)) = true := by simp; omega
    have Hl := Lib.hid hl
    clear hl
    go_enter Try.func126, Try.ntmps126
    go_wp2
    go_ret
    exact ⟨ret_bool (by have := Hl.out; simp [rowBad, this]), rfl⟩
theorem isMatF_enter (args : Array Value) (w : World) : Sem.run Try.prog (callFunc 126 args) w = .ok (.enter 126 args) w := by
  simp [callFunc, Try.func126, Try.f126]

set_option maxHeartbeats 400000 in
theorem isMatrix_c (a : Option Addr) (cap : Nat) (m : List (List Int)) (w : World) (hm : MatAt w a m) :
    Calls Try.prog 75 #[.slice a m.length cap] w fun e w' => e = .returned (.bool (isMat m)) ∧ Ext w w' := by
  obtain ⟨W, hW⟩ : ∃ W, w.alloc (.cells #[.slice a m.length cap] 24) = W := ⟨_, rfl⟩
  have hE : Ext w W := by rw [← hW]; exact (Ext.refl w).alloc _
  have hb : W.cell? ⟨w.heap.size, 0, none⟩ = some (.slice a m.length cap) := by rw [← hW]; simp
  have hm' := hm.mono hE
  have hlen := hm.len
  cases h1 : inR m.length 1 10
  · have e : isMat m = false := by simp [isMat, h1]
    rw [e]
    clear e hm hm'
    go_enter Try.func75, Try.ntmps75
    go_wp2_with fail
    refine (asB h1 (within_c _ _ _ _)).mono ?_
    rintro e w' ⟨rfl, rfl⟩
    go_wp2
    go_ret
    exact ⟨rfl, hE⟩
  · have h1' := inR_iff.1 h1
    have h0 : 0 < m.length := by omega
    have hz : (0 : Int) < (m.length : Int) := by omega
    have hC := containsM_c 126 #[.pointer (some ⟨w.heap.size, 0, none⟩)] (rowBad (row m 0).length) a cap m W hm' isMatF_enter
      (fun i ai ci hi hx => isMatF_c w.heap.size a ai cap ci m (row m i) W hb hm' h0 hx)
    have HC := Lib.hid hC
    clear hC
    obtain ⟨b, o, rfl, hc⟩ := hm'.at h0
    obtain ⟨a0, c0, d0, hx0, _⟩ := hc 0 h0
    rw [Nat.add_zero] at d0
    clear hc hm hm'
    cases h2 : inR (row m 0).length 1 10
    · have e : isMat m = false := by simp [isMat, h2]
      rw [e]
      clear e hx0
      go_enter Try.func75, Try.ntmps75
      go_wp2_with fail
      refine (asB h1 (within_c _ _ _ _)).mono ?_
      rintro e w' ⟨rfl, rfl⟩
      go_wp2_with fail
      refine (asB h2 (within_c _ _ _ _)).mono ?_
      rintro e w' ⟨rfl, rfl⟩
      go_wp2
      go_ret
      exact ⟨rfl, hE⟩
    · have e : isMat m = !m.any (rowBad (row m 0).length) := by rw [any_bad]; simp [isMat, h1, h2]
      have He := Lib.hid e
      clear e hx0
      go_enter Try.func75, Try.ntmps75
      go_wp2_with fail
      refine (asB h1 (within_c _ _ _ _)).mono ?_
      rintro e w' ⟨rfl, rfl⟩
      go_wp2_with fail
      refine (asB h2 (within_c _ _ _ _)).mono ?_
      rintro e w' ⟨rfl, rfl⟩
      go_wp2_with fail
      refine HC.out.mono ?_
      rintro e w' ⟨rfl, rfl⟩
      go_wp2
      go_ret
      exact ⟨ret_bool He.out.symm, hE⟩

theorem isSquare_c (a : Option Addr) (cap : Nat) (m : List (List Int)) (w : World) (hm : MatAt w a m) :
    Calls Try.prog 62 #[.slice a m.length cap] w fun e w' => e = .returned (.bool (isSq m)) ∧ Ext w w' := by
  cases h1 : isMat m
  · have e : isSq m = false := by simp [isSq, h1]
    rw [e]
    clear e
    go_enter Try.func62, Try.ntmps62
    go_wp2_with fail
    refine (asB h1 (isMatrix_c _ _ _ _ hm)).mono ?_
    rintro e w' ⟨rfl, hE⟩
    go_wp2
    go_ret
    exact ⟨rfl, hE⟩
  · have hr := isMat_rect h1
    obtain ⟨hr1, hr2, hr3, hr4, hr5⟩ := hr
    have e : isSq m = decide ((m.length : Int) = ((row m 0).length : Int)) := by
      simp only [isSq, h1, Bool.true_and]; rw [Bool.eq_iff_iff]; simp; omega
    have He := Lib.hid e
    have hz : (0 : Int) < (m.length : Int) := by omega
    clear e hr1
    go_enter Try.func62, Try.ntmps62
    go_wp2_with fail
    refine (asB h1 (isMatrix_c _ _ _ _ hm)).mono ?_
    rintro e w' ⟨rfl, hE⟩
    obtain ⟨b, o, rfl, hc⟩ := (hm.mono hE).at (i := 0) (by omega)
    obtain ⟨a0, c0, d0, hx0, _⟩ := hc 0 (by omega)
    rw [Nat.add_zero] at d0
    clear hc hx0
    go_wp2
    go_ret
    exact ⟨ret_bool (by rw [He.out]; rfl), hE⟩

theorem chkMF_c (ai : Option Addr) (ci : Nat) (r : List Int) (w : World) (hx : IntsAt w ai r) :
    Calls Try.prog 130 #[.slice ai r.length ci] w fun e w' => e = .returned (.bool (!allV r)) ∧ w = w' := by
  go_enter Try.func130, Try.ntmps130
  go_wp2_with fail
  refine (areValues_c _ _ _ _ hx).mono ?_
  rintro e w' ⟨rfl, rfl⟩
  go_wp2
  go_ret
  exact ⟨rfl, rfl⟩
theorem chkMF_enter (args : Array Value) (w : World) : Sem.run Try.prog (callFunc 130 args) w = .ok (.enter 130 args) w := by
  simp [callFunc, Try.func130, Try.f130]
theorem checkedMatrix_c (a : Option Addr) (cap : Nat) (m : List (List Int)) (w : World) (hm : MatAt w a m) :
    Calls Try.prog 78 #[.slice a m.length cap] w fun e w' => e = .returned (.tuple (if allM m then #[.slice a m.length cap, .int .i64 0] else #[.slice none 0 0, .int .i64 3])) ∧ w = w' := by
  have hC := containsM_c 130 #[] (fun r => !allV r) a cap m w hm chkMF_enter (fun i ai ci hi hx => chkMF_c ai ci (row m i) w hx)
  have e : m.any (fun r => !allV r) = !allM m := by unfold allM; rw [List.all_eq_not_any_not]; simp
  rw [e] at hC
  cases h : allM m
  · have HC := Lib.hid (asB (c := true) (by rw [h]; rfl) hC)
    clear hC e h
    go_enter Try.func78, Try.ntmps78
    go_wp2_with fail
    refine HC.out.mono ?_
    rintro e w' ⟨rfl, rfl⟩
    go_wp2
    go_ret2
    exact ⟨rfl, rfl⟩
  · have HC := Lib.hid (asB (c := false) (by rw [h]; rfl) hC)
    clear hC e h
    go_enter Try.func78, Try.ntmps78
    go_wp2_with fail
    refine HC.out.mono ?_
    rintro e w' ⟨rfl, rfl⟩
    go_wp2
    go_ret2
    exact ⟨rfl, rfl⟩

end Go.Proofs.Ytokhkpbebimohaa

/- Contracts of the reference's functions that ask whether lists are matrices, and of impl.isVector. No condition but the sizes. -/
namespace Go.Proofs.Ytokhkpbebimohaa
set_option linter.unusedVariables false
open Go.RowKit

theorem isVector_c (a : Option Addr) (cap : Nat) (x : List Int) (w : World) (hx : IntsAt w a x) :
    Calls Try.prog 88 #[.slice a x.length cap] w fun e w' => e = .returned (.bool (isVec x)) ∧ w = w' := by
  have hlen := hx.len
  cases h1 : inR x.length 1 10
  · have e : isVec x = false := by simp [isVec, h1]
    rw [e]; clear e
    go_enter Try.func88, Try.ntmps88
    go_wp2_with fail
    refine (asB h1 (within_c _ _ _ _)).mono ?_
    rintro e w' ⟨rfl, rfl⟩
    go_wp2
    go_ret
    exact ⟨rfl, rfl⟩
  · have e : isVec x = allV x := by simp [isVec, h1]
    rw [e]; clear e
    go_enter Try.func88, Try.ntmps88
    go_wp2_with fail
    refine (asB h1 (within_c _ _ _ _)).mono ?_
    rintro e w' ⟨rfl, rfl⟩
    go_wp2_with fail
    refine (areValues_c _ _ _ _ hx).mono ?_
    rintro e w' ⟨rfl, rfl⟩
    go_wp2
    go_ret
    exact ⟨rfl, rfl⟩

theorem l02Vector_c (a : Option Addr) (cap : Nat) (x : List Int) (w : World) (hx : IntsAt w a x) :
    Calls Try.prog 92 #[.slice a x.length cap] w fun e w' => e = .returned (.bool (isVec x)) ∧ w = w' := by
  have hlen := hx.len
  cases h1 : inR x.length 1 10
  · have e : isVec x = false := by simp [isVec, h1]
    rw [e]; clear e
    go_enter Try.func92, Try.ntmps92
    go_wp2_with fail
    refine (asB h1 (l01In_c _ _ _ _)).mono ?_
    rintro e w' ⟨rfl, rfl⟩
    go_wp2
    go_ret
    exact ⟨rfl, rfl⟩
  · have e : isVec x = allV x := by simp [isVec, h1]
    rw [e]; clear e
    go_enter Try.func92, Try.ntmps92
    go_wp2_with fail
    refine (asB h1 (l01In_c _ _ _ _)).mono ?_
    rintro e w' ⟨rfl, rfl⟩
    go_wp2_with fail
    refine (l01All_c _ _ _ _ hx).mono ?_
    rintro e w' ⟨rfl, rfl⟩
    go_wp2
    go_ret
    exact ⟨rfl, rfl⟩

theorem isMat_alt (m : List (List Int)) : isMat m = (inR m.length 1 10 && m.all fun r => isVec r && r.length == (row m 0).length) := by
  unfold isMat
  cases h1 : inR m.length 1 10
  · simp
  · have h0 : 0 < m.length := by have := inR_iff.1 h1; omega
    simp only [Bool.true_and]
    rw [Bool.eq_iff_iff, Bool.and_eq_true, all_iff_row, all_iff_row]
    constructor
    · rintro ⟨h2, h3⟩ i hi
      have := h3 i hi
      simp only [rowOk, Bool.and_eq_true, beq_iff_eq] at this
      simp only [isVec, Bool.and_eq_true, beq_iff_eq]
      exact ⟨⟨by rw [this.1]; exact h2, this.2⟩, this.1⟩
    · intro h
      have h2 := h 0 h0
      simp only [isVec, Bool.and_eq_true, beq_iff_eq] at h2
      refine ⟨h2.1.1, fun i hi => ?_⟩
      have := h i hi
      simp only [isVec, Bool.and_eq_true, beq_iff_eq] at this
      simp only [rowOk, Bool.and_eq_true, beq_iff_eq]
      exact ⟨this.2, this.1.2⟩

set_option maxHeartbeats 400000 in
theorem sIsMatrix_c (a : Option Addr) (cap : Nat) (m : List (List Int)) (w : World) (hm : MatAt w a m) :
    Calls Try.prog 80 #[.slice a m.length cap] w fun e w' => e = .returned (.bool (isMat m)) ∧ Qt w w' := by
  have hlen := hm.len
  cases h1 : inR m.length 1 10
  · have e : isMat m = false := by simp [isMat, h1]
    rw [e]; clear e
    have h1' := inR_not.1 h1
    have h1'' : m.length < 1 ∨ 10 < m.length := by omega
    clear h1
    rcases h1'' with h | h
    · go_enter Try.func80, Try.ntmps80
      go_wp2
      go_ret
      exact ⟨rfl, Qt.refl _⟩
    · go_enter Try.func80, Try.ntmps80
      go_wp2
      go_ret
      exact ⟨rfl, Qt.refl _⟩
  · have h1' := inR_iff.1 h1
    have hlo : 1 ≤ m.length := by omega
    have hhi : m.length ≤ 10 := by omega
    have e : isMat m = m.all fun r => isVec r && r.length == (row m 0).length := by rw [isMat_alt, h1]; simp
    have He := Lib.hid e
    clear e h1 h1'
    go_enter Try.func80, Try.ntmps80
    go_wp2
    go_loopw [3] (fun i wr => ∃ k : Nat, k ≤ m.length ∧ i = .int .i64 k ∧ Qt w wr ∧ Hid (∀ j, j < k → (isVec (row m j) && (row m j).length == (row m 0).length) = true)) (fun i _ => m.length - (intOf i).toNat)
    case atStart => exact ⟨0, Nat.zero_le _, rfl, Qt.refl _, fun j hj => absurd hj (Nat.not_lt_zero _)⟩
    case round =>
      obtain ⟨k, hk, rfl, hq, hj⟩ := hrel
      by_cases hlt : k < m.length
      · obtain ⟨b, o, rfl, hc⟩ := (hm.qt hq).at hlt
        obtain ⟨ai, ci, c1, hx, _⟩ := hc k hlt
        obtain ⟨a0, c0, d0, hx0, _⟩ := hc 0 (by omega)
        rw [Nat.add_zero] at d0
        have hz : (0 : Int) < (m.length : Int) := by omega
        clear hc
        cases hv : isVec (row m k)
        · have Hv := Lib.hid hv
          clear hv
          go_wp2_with fail
          go_big_quiet ((go_at_call 92; exact quiet_pure (asB Hv.out (l02Vector_c _ _ _ _ (hx.qt ⟨_, rfl⟩)))))
          go_wp2
          go_ret
          exact ⟨ret_bool (by rw [He.out, all_no_row hlt]; rw [Hv.out]; rfl), hq.drewN _⟩
        · have Hv := Lib.hid hv
          clear hv
          by_cases hl : (row m k).length = (row m 0).length
          · have hl' : (((row m k).length : Int) != ((row m 0).length : Int)) = false := by simp [hl]
            have Hl := Lib.hid hl
            clear hl
            go_wp2_with fail
            go_big_quiet ((go_at_call 92; exact quiet_pure (asB Hv.out (l02Vector_c _ _ _ _ (hx.qt ⟨_, rfl⟩)))))
            go_wp2
            go_roundw
            case rel => exact ⟨k + 1, by omega, by go_num, hq.drewN _, fun j h => by
              by_cases e : j = k
              · subst e; rw [Hv.out, Hl.out]; simp
              · exact hj.out j (by omega)⟩
            case measure => simp [intOf]; omega
          · have hl' : (((row m k).length : Int) != ((row m 0).length : Int)) = true := by simp; omega
            have Hl := Lib.hid hl
            clear hl
            go_wp2_with fail
            go_big_quiet ((go_at_call 92; exact quiet_pure (asB Hv.out (l02Vector_c _ _ _ _ (hx.qt ⟨_, rfl⟩)))))
            go_wp2
            go_ret
            exact ⟨ret_bool (by have := Hl.out; rw [He.out, all_no_row hlt]; simp [this]), hq.drewN _⟩
      · go_wp2
        go_ret
        exact ⟨ret_bool (by rw [He.out, all_iff_row.2 fun i hi => hj.out i (by omega)]), hq⟩

theorem l02Square_c (a : Option Addr) (cap : Nat) (m : List (List Int)) (w : World) (hm : MatAt w a m) :
    Calls Try.prog 64 #[.slice a m.length cap] w fun e w' => e = .returned (.bool (isSq m)) ∧ Qt w w' := by
  cases h1 : isMat m
  · have e : isSq m = false := by simp [isSq, h1]
    rw [e]
    clear e
    go_enter Try.func64, Try.ntmps64
    go_wp2_with fail
    refine (asB h1 (sIsMatrix_c _ _ _ _ hm)).mono ?_
    rintro e w' ⟨rfl, hE⟩
    go_wp2
    go_ret
    exact ⟨rfl, hE⟩
  · have hr := isMat_rect h1
    obtain ⟨hr1, hr2, hr3, hr4, hr5⟩ := hr
    have e : isSq m = decide ((m.length : Int) = ((row m 0).length : Int)) := by
      simp only [isSq, h1, Bool.true_and]; rw [Bool.eq_iff_iff]; simp; omega
    have He := Lib.hid e
    have hz : (0 : Int) < (m.length : Int) := by omega
    clear e hr1
    go_enter Try.func64, Try.ntmps64
    go_wp2_with fail
    refine (asB h1 (sIsMatrix_c _ _ _ _ hm)).mono ?_
    rintro e w' ⟨rfl, hE⟩
    obtain ⟨b, o, rfl, hc⟩ := (hm.qt hE).at (i := 0) (by omega)
    obtain ⟨a0, c0, d0, hx0, _⟩ := hc 0 (by omega)
    rw [Nat.add_zero] at d0
    clear hc hx0
    go_wp2
    go_ret
    exact ⟨ret_bool (by rw [He.out]; rfl), hE⟩

end Go.Proofs.Ytokhkpbebimohaa
