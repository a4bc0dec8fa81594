/- Contracts of starOf and l03Star. Conditions: the form and the bounds of the matrix. -/
import Derived.Test.YtokhkpbebimohaaGN
import Derived.Test.YtokhkpbebimohaaGN
import Derived.Test.YtokhkpbebimohaaGK
import Derived.Test.YtokhkpbebimohaaGM
import Derived.Test.YtokhkpbebimohaaGN
namespace Go.Proofs.Ytokhkpbebimohaa
set_option linter.unusedVariables false
set_option linter.unusedSimpArgs false
open Go.RowKit

theorem FillD.same {F I : Nat → Nat → Int} {m n : Nat} {M : List (List Int)} {D : Nat → Nat → Prop} (h : FillD F I m n D M) {i j : Nat} (hi : i < m) (hj : j < n) (e : F i j = I i j) : ent M i j = I i j := by
  rcases Classical.em (D i j) with hd | hd
  · rw [(h.2 i j hi hj).1 hd, e]
  · exact (h.2 i j hi hj).2 hd
theorem ABd.ebd {x : List (List Int)} {n : Nat} {M : Int} (h : ABd (ent x) n M) : EBd 4000000000000000000 x := fun i j => by
  have := h.one
  rcases Classical.em (ent x i j = -1000000000000000) with e | e
  · omega
  · have := h.bd i j e; omega
/-- what starOf hands back -/
def StarPost (x : List (List Int)) (n : Nat) (w : World) (e : Ending) (w' : World) : Prop :=
  Ext w w' ∧ (starB (ent x) n = true → ∃ a cap, e = .returned (.tuple #[.slice a n cap, .bool true]) ∧ OwnM w' w.heap.size (.slice a n cap) (starM x n)) ∧ (starB (ent x) n = false → ∃ a k cap, e = .returned (.tuple #[.slice a k cap, .bool false]))

set_option maxHeartbeats 400000 in
theorem l01Same_c (a b : Option Addr) (ca cb : Nat) (xs ys : List Int) (w : World) (ha : IntsAt w a xs) (hb : IntsAt w b ys) :
    Calls Try.prog 161 #[.slice a xs.length ca, .slice b ys.length cb] w fun e w' => e = .returned (.bool (decide (xs = ys))) ∧ Qt w w' := by
  have hla := ha.len
  have hlb := hb.len
  go_enter Try.func161, Try.ntmps161
  go_wp2
  · have hl := ne_len (by assumption)
    go_ret
    exact ⟨ret_bool (by rw [decide_eq_false (fun h => hl (by rw [h]))]), Qt.refl _⟩
  · have hl : Hid (xs.length = ys.length) := eq_len (by assumption)
    go_loopw [5] (fun i wr => ∃ k : Nat, k ≤ xs.length ∧ i = .int .i64 k ∧ Qt w wr ∧ Hid (∀ j, j < k → nth xs j = nth ys j)) (fun i _ => xs.length - (intOf i).toNat)
    case atStart => exact ⟨0, Nat.zero_le _, rfl, Qt.refl _, fun j hj => absurd hj (Nat.not_lt_zero _)⟩
    case round =>
      obtain ⟨k, hk, rfl, hq, hj⟩ := hrel
      by_cases hlt : k < xs.length
      · obtain ⟨b1, o1, rfl, hc1⟩ := (ha.qt hq).at hlt
        have hlt2 : k < ys.length := by have := hl.out; omega
        obtain ⟨b2, o2, rfl, hc2⟩ := (hb.qt hq).at hlt2
        have d1 := hc1 k hlt
        have d2 := hc2 k hlt2
        clear hc1 hc2
        go_wp2_with fail
        go_big_quiet (fail)
        go_wp2
        · have hne : (nth xs k != nth ys k) = true := by assumption
          go_ret
          exact ⟨ret_bool (by rw [decide_eq_false (fun h => by rw [h] at hne; simp at hne)]), hq.drewN _⟩
        · have he : (nth xs k != nth ys k) = false := by assumption
          have he' := bne_eq_false_iff_eq.1 he
          have He := Lib.hid he'
          clear he'
          go_roundw
          case rel => exact ⟨k + 1, by omega, by go_num, hq.drewN _, fun j h => by
            by_cases e : j = k
            · subst e; exact He.out
            · exact hj.out j (by omega)⟩
          case measure => simp [intOf]; omega
      · go_wp2
        go_ret
        exact ⟨ret_bool (by rw [decide_eq_true (list_ext_nth hl.out (fun i hi => hj.out i (by omega)))]), hq⟩

theorem l02Same_c (a b : Option Addr) (ca cb : Nat) (xs ys : List (List Int)) (w : World) (ha : MatAt w a xs) (hb : MatAt w b ys) :
    Calls Try.prog 138 #[.slice a xs.length ca, .slice b ys.length cb] w fun e w' => e = .returned (.bool (decide (xs = ys))) ∧ Qt w w' := by
  have hla := ha.len
  have hlb := hb.len
  go_enter Try.func138, Try.ntmps138
  go_wp2
  · have hl := ne_len (by assumption)
    go_ret
    exact ⟨ret_bool (by rw [decide_eq_false (fun h => hl (by rw [h]))]), Qt.refl _⟩
  · have hl : Hid (xs.length = ys.length) := eq_len (by assumption)
    go_loopw [5] (fun i wr => ∃ k : Nat, k ≤ xs.length ∧ i = .int .i64 k ∧ Qt w wr ∧ Hid (∀ j, j < k → row xs j = row ys j)) (fun i _ => xs.length - (intOf i).toNat)
    case atStart => exact ⟨0, Nat.zero_le _, rfl, Qt.refl _, fun j hj => absurd hj (Nat.not_lt_zero _)⟩
    case round =>
      obtain ⟨k, hk, rfl, hq, hj⟩ := hrel
      by_cases hlt : k < xs.length
      · obtain ⟨b1, o1, rfl, hc1⟩ := (ha.qt hq).at hlt
        have hlt2 : k < ys.length := by have := hl.out; omega
        obtain ⟨b2, o2, rfl, hc2⟩ := (hb.qt hq).at hlt2
        obtain ⟨a1, i1, d1, g1, _⟩ := hc1 k hlt
        obtain ⟨a2, i2, d2, g2, _⟩ := hc2 k hlt2
        clear hc1 hc2
        by_cases he : row xs k = row ys k
        · have He := Lib.hid he
          clear he
          go_wp2_with fail
          go_big_quiet ((go_at_call 161; exact quiet_call (asB (decide_eq_true He.out) (l01Same_c _ _ _ _ _ _ _ (g1.qt ⟨_, rfl⟩) (g2.qt ⟨_, rfl⟩)))))
          go_wp2
          go_roundw
          case rel => exact ⟨k + 1, by omega, by go_num, hq.drewN _, fun j h => by
            by_cases e : j = k
            · subst e; exact He.out
            · exact hj.out j (by omega)⟩
          case measure => simp [intOf]; omega
        · have He := Lib.hid he
          clear he
          go_wp2_with fail
          go_big_quiet ((go_at_call 161; exact quiet_call (asB (decide_eq_false He.out) (l01Same_c _ _ _ _ _ _ _ (g1.qt ⟨_, rfl⟩) (g2.qt ⟨_, rfl⟩)))))
          go_wp2
          go_ret
          exact ⟨ret_bool (by rw [decide_eq_false (fun h => He.out (by rw [h]))]), hq.drewN _⟩
      · go_wp2
        go_ret
        exact ⟨ret_bool (by rw [decide_eq_true (list_ext_row hl.out (fun i hi => hj.out i (by omega)))]), hq⟩

set_option maxHeartbeats 2000000 in
theorem starOf_c (a : Option Addr) (ca : Nat) (x : List (List Int)) (n : Nat) (B0 : Int) (w : World) (hx : MatAt w a x) (rx : Rect x n n) (hl1 : 1 ≤ n) (hl2 : n ≤ 10) (hA : ABd (ent x) n B0) :
    Calls Try.prog 89 #[.slice a x.length ca] w (StarPost x n w) := by
  have hxl := hx.len
  have HX := Lib.hid (And.intro hx (And.intro rx hA))
  have hn := rx.1
  rw [show (StarPost x n w) = fun e w' => (Ext w w' ∧ (starB (ent x) n = true → ∃ a cap, e = .returned (.tuple #[.slice a n cap, .bool true]) ∧ OwnM w' w.heap.size (.slice a n cap) (starM x n)) ∧ (starB (ent x) n = false → ∃ a k cap, e = .returned (.tuple #[.slice a k cap, .bool false]))) from rfl]
  rw [hn] at hxl ⊢
  clear hx rx hA hn
  go_enter Try.func89, Try.ntmps89
  go_wp2_with fail
  refine (unitMatrix_c n _ (by omega)).mono ?_
  rintro e w1 ⟨au, cu, rfl, hOu, hE1⟩
  rw [mkMat_len]
  go_wp2_with fail
  refine (by
    have h := addMatrices_c a au ca cu n n x (mkMat n n unitF) w1 (HX.out.1.mono hE1) hOu.mat HX.out.2.1 (rect_mk _ _ _) (by omega) (by omega) (by omega)
    rw [HX.out.2.1.1, mkMat_len] at h
    exact h : Calls _ _ #[.slice a n ca, .slice au n cu] w1 _).mono ?_
  rintro e w2 ⟨asd, cs, rfl, hOs, hE2⟩
  have e0 : mkMat n n (addE x (mkMat n n unitF)) = mkMat n n (fwS (ent x) 0) := mkMat_congr fun i j hi hj => by unfold addE; rw [mkMat_ent hi hj]; rfl
  rw [e0] at hOs ⊢
  rw [mkMat_len]
  obtain ⟨g, A, C, rfl, hM⟩ := hOs.open (by rw [mkMat_len]; omega)
  replace hM := hM.mono hE1.size
  have hE := hE1.trans hE2
  clear hOu hOs e0 hE1 hE2
  go_wp2
  go_loopw [16] (fun i wr => ∃ k : Nat, k ≤ n ∧ i = .int .i64 k ∧ Ext w wr ∧ Mat wr w.heap.size g cs A C (mkMat n n (fwS (ent x) k)) ∧ Hid (fwB (ent x) k = true)) (fun i _ => n - (intOf i).toNat)
  case atStart => exact ⟨0, Nat.zero_le _, rfl, hE, hM, rfl⟩
  case round =>
    obtain ⟨k, hk, rfl, hE3, hM3, hB⟩ := hrel
    clear hE hM
    have hrw : ∀ i, i < n → (row (mkMat n n (fwS (ent x) k)) i).length = n := fun i hi => (rect_mk n n _).2 i hi
    have hln : (mkMat n n (fwS (ent x) k)).length = n := mkMat_len _ _ _
    by_cases hlt : k < n
    · have c1 := hM3.cell (i := k) (by rw [hln]; exact hlt)
      obtain ⟨r, hAk, -, -, hce, -⟩ := hM3.addr (i := k) (by rw [hln]; exact hlt) (by rw [hrw k hlt]; omega)
      have c2 := hce k (by rw [hrw k hlt]; exact hlt)
      rw [hrw k hlt, hAk] at c1
      rw [mkMat_ent hlt hlt] at c2
      have hbd := fw_bd HX.out.2.2 (Nat.le_of_lt hlt) hB.out hlt hlt
      clear hce
      by_cases hd : fwS (ent x) k k k ≤ 0
      · have hz := fw_diag HX.out.2.2 hlt hB.out hd
        have hB2 : Hid (fwB (ent x) (k + 1) = true) := by rw [fwB_succ, hB.out, decide_eq_true hd]; rfl
        rw [hz] at c2
        have HZ := Lib.hid hz
        have hF0 : Hid (FillD (fwS (ent x) (k + 1)) (fwS (ent x) k) n n (fun u v => u < 0) (mkMat n n (fwS (ent x) k))) :=
          ⟨rect_mk _ _ _, fun u v hu hv => ⟨fun h => absurd h (Nat.not_lt_zero _), fun _ => mkMat_ent hu hv⟩⟩
        have hbd2 := Lib.hid (fun i j (hi : i < n) (hj : j < n) => fw_bd HX.out.2.2 (Nat.le_of_lt hlt) hB.out hi hj)
        have hsucc : ∀ i j, fwS (ent x) (k + 1) i j = max (fwS (ent x) k i j) (times (fwS (ent x) k i k) (fwS (ent x) k k j)) := fun _ _ => rfl
        have hcol : ∀ i, i < n → fwS (ent x) (k + 1) i k = fwS (ent x) k i k := fun i hi => fwF_col hz i (hbd2.out i k hi hlt).1
        have hrow : ∀ j, j < n → fwS (ent x) (k + 1) k j = fwS (ent x) k k j := fun j hj => fwF_row hz j (hbd2.out k j hlt hj).1
        have HS := Lib.hid (And.intro hsucc (And.intro hcol hrow))
        clear hz hd hbd hsucc hcol hrow hrw hln
        generalize mkMat n n (fwS (ent x) k) = M0 at *
        generalize hS1 : fwS (ent x) (k + 1) = S1 at *
        have HS1 := Lib.hid hS1
        clear hS1
        generalize fwS (ent x) k = S0 at *
        go_wp2
        clear c1 c2
        go_loopw [29] (fun i wr => ∃ (i' : Nat) (M : List (List Int)), i' ≤ n ∧ i = .int .i64 i' ∧ Ext w wr ∧ Mat wr w.heap.size g cs A C M ∧ Hid (FillD S1 S0 n n (fun u v => u < i') M)) (fun i _ => n - (intOf i).toNat)
        case atStart => exact ⟨0, M0, Nat.zero_le _, rfl, hE3, hM3, hF0⟩
        case round =>
          obtain ⟨i, M1, hi, rfl, hE4, hM4, hF1⟩ := hrel
          clear hE3 hM3 hF0
          by_cases hlti : i < n
          · go_wp2
            go_loopw [34] (fun j wr => ∃ (j' : Nat) (M : List (List Int)), j' ≤ n ∧ j = .int .i64 j' ∧ Ext w wr ∧ Mat wr w.heap.size g cs A C M ∧ Hid (FillD S1 S0 n n (fun u v => u < i ∨ (u = i ∧ v < j')) M)) (fun i _ => n - (intOf i).toNat)
            case atStart => exact ⟨0, M1, Nat.zero_le _, rfl, hE4, hM4, hF1.out.congr fun u v _ _ => by omega⟩
            case round =>
              obtain ⟨j, M3, hj, rfl, hE5, hM5, hF3⟩ := hrel
              clear hE4 hM4
              by_cases hltj : j < n
              · have hiM : i < M3.length := by rw [hF3.out.1.1]; exact hlti
                have hkM : k < M3.length := by rw [hF3.out.1.1]; exact hlt
                have hri : (row M3 i).length = n := hF3.out.1.2 i hlti
                have hrk : (row M3 k).length = n := hF3.out.1.2 k hlt
                have c1 := hM5.cell hiM
                have c3 := hM5.cell hkM
                obtain ⟨r, hA1, hBr, hrs, hce, hfe⟩ := hM5.addr hiM (by rw [hri]; omega)
                obtain ⟨r2, hA2, hBr2, hrs2, hce2, -⟩ := hM5.addr hkM (by rw [hrk]; omega)
                have c2 := hce j (by rw [hri]; exact hltj)
                have c4 := hce k (by rw [hri]; exact hlt)
                have c5 := hce2 j (by rw [hrk]; exact hltj)
                have f2 := hfe j
                rw [hri, hA1] at c1
                rw [hrk, hA2] at c3
                have e1 : ent M3 i j = S0 i j := hF3.out.todo hlti hltj (by omega)
                have e2 : ent M3 i k = S0 i k := hF3.out.same hlti hlt (HS.out.2.1 i hlti)
                have e3 : ent M3 k j = S0 k j := hF3.out.same hlt hltj (HS.out.2.2 j hltj)
                rw [e1] at c2
                rw [e2] at c4
                rw [e3] at c5
                have hset := fun z => hM5.set hiM hA1 j z
                have hset := Lib.hid hset
                have hnext := hF3.out.step (D' := fun u v => u < i ∨ (u = i ∧ v < j + 1)) hlti hltj fun u v _ _ => by omega
                have hstep := HS.out.1 i j
                have b1 := hbd2.out i k hlti hlt
                have b2 := hbd2.out k j hlt hltj
                clear hce hfe hri hrk hA1 hA2 hF3 e1 e2 e3 hce2
                generalize S0 i j = s at *
                generalize S0 i k = p at *
                generalize S0 k j = q at *
                generalize hT : times p q = t at hstep
                have hT := Lib.hid hT
                have hbe : Hid (-4000000000000000000 ≤ p ∧ p ≤ 4000000000000000000) := by constructor <;> omega
                have hbf : Hid (-4000000000000000000 ≤ q ∧ q ≤ 4000000000000000000) := by constructor <;> omega
                clear b1 b2
                by_cases hmx : s < t
                · have hm : max s t = t := by omega
                  rw [hm] at hstep
                  rw [hstep] at hnext
                  have hnext := Lib.hid hnext
                  clear hm hstep
                  go_wp2_with fail
                  refine region_qt_lit 29 (by kernel_rfl) (by kernel_rfl) ?_
                  simp only [List.take_succ_cons, List.take_zero, List.drop_succ_cons, List.drop_zero]
                  repeat (go_big_quiet_step ((go_at_call 132; exact quiet_pure (times_cT hT.out _ hbe.out hbf.out))))
                  refine wpQuiet_nil ?_
                  intro _ hw'
                  obtain ⟨nq, hw''⟩ := hw'
                  subst hw''
                  go_wp2
                  go_roundw
                  case rel =>
                    refine ⟨j + 1, _, by omega, by go_num, ?_, ?_, hnext.out⟩
                    · repeat (first | exact hE5 | refine Ext.drewN ?_ _ | refine Ext.drew ?_ | refine Ext.set ?_ hBr _)
                    · exact (hset.out _).ext ⟨rfl, rfl, rfl, Nat.le_refl _, fun _ _ => rfl⟩
                  case measure => simp [intOf]; omega
                · have hm : max s t = s := by omega
                  rw [hm] at hstep
                  rw [hstep] at hnext
                  have hnext := Lib.hid hnext
                  clear hm hstep
                  go_wp2_with fail
                  refine region_qt_lit 29 (by kernel_rfl) (by kernel_rfl) ?_
                  simp only [List.take_succ_cons, List.take_zero, List.drop_succ_cons, List.drop_zero]
                  repeat (go_big_quiet_step ((go_at_call 132; exact quiet_pure (times_cT hT.out _ hbe.out hbf.out))))
                  refine wpQuiet_nil ?_
                  intro _ hw'
                  obtain ⟨nq, hw''⟩ := hw'
                  subst hw''
                  go_wp2
                  go_roundw
                  case rel =>
                    refine ⟨j + 1, _, by omega, by go_num, ?_, ?_, hnext.out⟩
                    · repeat (first | exact hE5 | refine Ext.drewN ?_ _ | refine Ext.drew ?_ | refine Ext.set ?_ hBr _)
                    · exact (hset.out _).ext ⟨rfl, rfl, rfl, Nat.le_refl _, fun _ _ => rfl⟩
                  case measure => simp [intOf]; omega
              · obtain rfl : n = j := by omega
                go_wp2
                go_roundw
                case rel => exact ⟨i + 1, M3, by omega, by go_num, hE5, hM5, hF3.out.congr fun u v _ _ => by omega⟩
                case measure => simp [intOf]; omega
          · obtain rfl : n = i := by omega
            have e := hF1.out.done fun u v hu hv => hu
            subst e
            go_wp2
            go_roundw
            case rel => exact ⟨k + 1, by omega, by go_num, hE4, by rw [HS1.out]; exact hM4, hB2⟩
            case measure => simp [intOf]; omega
      · have hno := starB_no1 hlt hd
        have Hno := Lib.hid hno
        have hd2 : 0 < fwS (ent x) k k k := by omega
        clear hno hd hrw hln
        generalize fwS (ent x) k k k = d at *
        go_wp2
        go_ret2
        exact ⟨hE3, fun h => (by rw [Hno.out] at h; cases h), fun _ => ⟨none, 0, 0, rfl⟩⟩
    · obtain rfl : n = k := by omega
      have HM := Lib.hid hM3
      clear hrw
      go_wp2
      go_loop [71] (fun i => ∃ k : Nat, k ≤ n ∧ i = .int .i64 k ∧ Hid (fwD (ent x) n k = true)) (fun i => n - (intOf i).toNat)
      case atStart => exact ⟨0, Nat.zero_le _, rfl, rfl⟩
      case round =>
        obtain ⟨t, ht, rfl, hD⟩ := hrel
        by_cases hltt : t < n
        · have hrw : (row (mkMat n n (fwS (ent x) n)) t).length = n := (rect_mk n n _).2 t hltt
          have c1 := HM.out.cell (i := t) (by rw [hln]; exact hltt)
          obtain ⟨r, hAk, -, -, hce, -⟩ := HM.out.addr (i := t) (by rw [hln]; exact hltt) (by rw [hrw]; omega)
          have c2 := hce t (by rw [hrw]; exact hltt)
          rw [hrw, hAk] at c1
          rw [mkMat_ent hltt hltt] at c2
          clear hce
          by_cases hd : fwS (ent x) n t t ≤ 0
          · have hD2 : Hid (fwD (ent x) n (t + 1) = true) := by rw [fwD_succ, hD.out, decide_eq_true hd]; rfl
            generalize fwS (ent x) n t t = d at *
            go_wp2
            go_round
            case rel => exact ⟨t + 1, by omega, by go_num, hD2⟩
            case measure => simp [intOf]; omega
          · have hno := starB_no2 hltt hd
            have Hno := Lib.hid hno
            have hd2 : 0 < fwS (ent x) n t t := by omega
            clear hno hd
            generalize fwS (ent x) n t t = d at *
            go_wp2
            go_ret2
            exact ⟨hE3, fun h => (by rw [Hno.out] at h; cases h), fun _ => ⟨none, 0, 0, rfl⟩⟩
        · obtain rfl : n = t := by omega
          have hyes : starB (ent x) n = true := by unfold starB; rw [hB.out, hD.out]; rfl
          have Hy := Lib.hid hyes
          clear hyes
          go_wp2
          go_ret2
          have hlm : (starM x n).length = n := mkMat_len _ _ _
          exact ⟨hE3, fun _ => ⟨_, cs, rfl, .inr ⟨g, cs, A, C, by rw [hlm], HM.out⟩⟩, fun h => by rw [Hy.out] at h; cases h⟩

set_option maxHeartbeats 1000000 in
theorem l03Star_c (a : Option Addr) (ca : Nat) (x : List (List Int)) (n : Nat) (B0 : Int) (w : World) (hx : MatAt w a x) (rx : Rect x n n) (hl1 : 1 ≤ n) (hl2 : n ≤ 10) (hA : ABd (ent x) n B0) :
    Calls Try.prog 93 #[.slice a x.length ca] w (StarPost x n w) := by
  have hxl := hx.len
  have hn := rx.1
  have hebd : ∀ k, k ≤ n + 1 → EBd 4000000000000000000 (mkMat n n (rdS n (ent x) k)) := fun k hk => ebd_mk (by omega) fun i j hi hj => by have := rd_bd hA hk hi hj; omega
  have hmul : ∀ k, mkMat n n (addE (mkMat n n unitF) (mkMat n n (mulE n x (mkMat n n (rdS n (ent x) k))))) = mkMat n n (rdS n (ent x) (k + 1)) := fun k => mkMat_congr fun i j hi hj => by
    unfold addE; rw [mkMat_ent hi hj, mkMat_ent hi hj]
    show max (unitF i j) _ = roundF n (ent x) (rdS n (ent x) k) i j
    unfold mulE roundF
    rw [mx_congr fun t ht => by rw [mkMat_ent ht hj]]
  have hfin : decide (mkMat n n (rdS n (ent x) (n + 1)) = mkMat n n (rdS n (ent x) n)) = starB (ent x) n := by
    rw [Bool.eq_iff_iff, decide_eq_true_eq, ← rd_fix hA]
    constructor
    · intro e i j hi hj
      have := congrArg (fun m => ent m i j) e
      simp only [mkMat_ent hi hj] at this
      exact this.symm
    · intro e; exact mkMat_congr fun i j hi hj => (e i j hi hj).symm
  have hstar : starB (ent x) n = true → mkMat n n (rdS n (ent x) n) = starM x n := fun h => mkMat_congr fun i j hi hj => star_eq hA h i j hi hj
  have HX := Lib.hid (And.intro hx (And.intro rx (And.intro hA (And.intro hebd (And.intro hmul (And.intro hfin hstar))))))
  rw [show (StarPost x n w) = fun e w' => (Ext w w' ∧ (starB (ent x) n = true → ∃ a cap, e = .returned (.tuple #[.slice a n cap, .bool true]) ∧ OwnM w' w.heap.size (.slice a n cap) (starM x n)) ∧ (starB (ent x) n = false → ∃ a k cap, e = .returned (.tuple #[.slice a k cap, .bool false]))) from rfl]
  rw [hn] at hxl ⊢
  clear hx rx hA hn hebd hmul hfin hstar
  -- one round: the unit and the product
  have hround : Hid (∀ (w1 : World) (ao : Option Addr) (co k : Nat), k ≤ n → Ext w w1 → MatAt w1 ao (mkMat n n (rdS n (ent x) k)) → Calls Try.prog 96 #[.slice a n ca, .slice ao n co] w1 (GivesM w1 (mkMat n n (mulE n x (mkMat n n (rdS n (ent x) k)))))) := fun w1 ao co k hk hE hm => by
    have h := l02Multiply_c a ao ca co n n n x (mkMat n n (rdS n (ent x) k)) w1 (HX.out.1.mono hE) hm HX.out.2.1 (rect_mk _ _ _) (by omega) (by omega) (by omega) (by omega) (by omega) HX.out.2.2.1.ebd (HX.out.2.2.2.1 k (by omega))
    rwa [HX.out.2.1.1, mkMat_len] at h
  have hsum : Hid (∀ (w1 : World) (au ap : Option Addr) (cu cp k : Nat), MatAt w1 au (mkMat n n unitF) → MatAt w1 ap (mkMat n n (mulE n x (mkMat n n (rdS n (ent x) k)))) → Calls Try.prog 137 #[.slice au n cu, .slice ap n cp] w1 (GivesM w1 (mkMat n n (rdS n (ent x) (k + 1))))) := fun w1 au ap cu cp k h1 h2 => by
    have h := l02Add_c au ap cu cp n n (mkMat n n unitF) (mkMat n n (mulE n x (mkMat n n (rdS n (ent x) k)))) w1 h1 h2 (rect_mk _ _ _) (rect_mk _ _ _) (by omega) (by omega) (by omega) (by omega)
    rwa [mkMat_len, mkMat_len, HX.out.2.2.2.2.1 k] at h
  go_enter Try.func93, Try.ntmps93
  go_wp2_with fail
  refine (l02Unit_c n _ (by omega)).mono ?_
  rintro e w1 ⟨au, cu, rfl, hOu, hE1⟩
  rw [mkMat_len]
  rw [mkMat_len] at hOu
  go_wp2
  go_loopw [5, 6] (fun s i wr => ∃ (k : Nat) (ao : Option Addr) (co : Nat), k ≤ n ∧ i = .int .i64 k ∧ Ext w wr ∧ s = .slice ao n co ∧ OwnM wr w.heap.size (.slice ao n co) (mkMat n n (rdS n (ent x) k))) (fun _ i _ => n - (intOf i).toNat)
  case atStart => exact ⟨0, au, cu, Nat.zero_le _, rfl, hE1, rfl, hOu⟩
  case round =>
    obtain ⟨k, ao, co, hk, rfl, hE2, rfl, hO2⟩ := hrel
    clear hOu hE1
    by_cases hlt : k < n
    · go_wp2_with fail
      refine (l02Unit_c n _ (by omega)).mono ?_
      rintro e w3 ⟨a3, c3, rfl, hO3, hE3⟩
      rw [mkMat_len]
      go_wp2_with fail
      refine (hround.out _ _ _ k hk (hE2.trans hE3) (hO2.ext hE3).mat).mono ?_
      rintro e w4 ⟨a4, c4, rfl, hO4, hE4⟩
      rw [mkMat_len]
      go_wp2_with fail
      refine (hsum.out _ _ _ _ _ k (hO3.ext hE4).mat hO4.mat).mono ?_
      rintro e w5 ⟨a5, c5, rfl, hO5, hE5⟩
      have hEE := ((hE2.trans hE3).trans hE4)
      rw [mkMat_len]
      rw [mkMat_len] at hO5
      go_wp2
      go_roundw
      case rel => exact ⟨k + 1, a5, c5, by omega, by go_num, hEE.trans hE5, rfl, hO5.mono hEE.size⟩
      case measure => simp [intOf]; omega
    · obtain rfl : n = k := by omega
      go_wp2_with fail
      refine (l02Unit_c n _ (by omega)).mono ?_
      rintro e w3 ⟨a3, c3, rfl, hO3, hE3⟩
      rw [mkMat_len]
      go_wp2_with fail
      refine (hround.out _ _ _ n hk (hE2.trans hE3) (hO2.ext hE3).mat).mono ?_
      rintro e w4 ⟨a4, c4, rfl, hO4, hE4⟩
      rw [mkMat_len]
      go_wp2_with fail
      refine (hsum.out _ _ _ _ _ n (hO3.ext hE4).mat hO4.mat).mono ?_
      rintro e w5 ⟨a5, c5, rfl, hO5, hE5⟩
      have hEE := ((hE2.trans hE3).trans hE4).trans hE5
      rw [mkMat_len]
      rw [mkMat_len] at hO5
      have hOo := hO2.ext ((hE3.trans hE4).trans hE5)
      have hsame : Calls Try.prog 138 #[.slice a5 n c5, .slice ao n co] w5 fun e w' => e = .returned (.bool (starB (ent x) n)) ∧ Qt w5 w' := by
        have h := l02Same_c a5 ao c5 co (mkMat n n (rdS n (ent x) (n + 1))) (mkMat n n (rdS n (ent x) n)) w5 hO5.mat hOo.mat
        rwa [mkMat_len, mkMat_len, HX.out.2.2.2.2.2.1] at h
      have HSm := Lib.hid hsame
      clear hsame hO3 hO4 hO5 hO2
      cases hs : starB (ent x) n
      · rw [hs] at HSm
        have Hs := Lib.hid hs
        clear hs
        go_wp2_with fail
        refine HSm.out.mono ?_
        rintro e w6 ⟨rfl, hq⟩
        go_wp2
        go_ret2
        exact ⟨hEE.qt hq, fun h => (by rw [Hs.out] at h; cases h), fun _ => ⟨_, _, _, rfl⟩⟩
      · rw [hs] at HSm
        have Hs := Lib.hid hs
        clear hs
        go_wp2_with fail
        refine HSm.out.mono ?_
        rintro e w6 ⟨rfl, hq⟩
        go_wp2
        go_ret2
        have he := HX.out.2.2.2.2.2.2 Hs.out
        rw [he] at hOo
        exact ⟨hEE.qt hq, fun _ => ⟨ao, co, rfl, hOo.ext hq.ext⟩, fun h => by rw [Hs.out] at h; cases h⟩
end Go.Proofs.Ytokhkpbebimohaa
