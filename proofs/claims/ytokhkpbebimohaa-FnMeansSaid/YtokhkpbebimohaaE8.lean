/- Contracts of ShiftMatrix and PowerMatrix, the program's and the reference's. No condition. -/
import Derived.Test.YtokhkpbebimohaaGO
import Derived.Test.YtokhkpbebimohaaGN
import Derived.Test.YtokhkpbebimohaaGE
namespace Go.Proofs.Ytokhkpbebimohaa
set_option linter.unusedVariables false
set_option linter.unusedSimpArgs false
open Go.RowKit

set_option maxHeartbeats 400000 in
theorem implShift_c (a : Option Addr) (ca : Nat) (x : List (List Int)) (num den : Int) (w : World) (hx : MatAt w a x) : Calls Try.prog 56 #[.slice a x.length ca, .agg #[.int .i64 num, .int .i64 den]] w (GivesM2 w (shiftV x (num, den)).1 (shiftV x (num, den)).2) := by
  obtain ⟨W, hW, HBx, hs2, hE0⟩ := alloc2_facts w (.int .i64 num) (.int .i64 den) 55
  obtain ⟨c0, c1, -, -⟩ := HBx
  have HX := Lib.hid hx
  clear hx
  cases hs : isSq x
  · have e : shiftV x (num, den) = ([], 1) := by simp [shiftV, hs]
    rw [e]; clear e
    go_enter Try.func56, Try.ntmps56
    go_wp2_with fail
    refine (asB hs (isSquare_c _ _ _ _ (HX.out.mono hE0))).mono ?_
    rintro e w1 ⟨rfl, E1⟩
    replace E1 := E1
    replace c0 := E1.cell c0
    replace c1 := E1.cell c1
    go_wp2
    go_ret2
    exact ⟨none, 0, rfl, OwnM.nil _ _, hE0.trans E1⟩
  obtain ⟨rx, hl1, hl2⟩ := isSq_rect hs
  cases hr : isRat (num, den)
  · have e : shiftV x (num, den) = ([], 1) := by simp [shiftV, hr]
    rw [e]; clear e
    go_enter Try.func56, Try.ntmps56
    go_wp2_with fail
    refine (asB hs (isSquare_c _ _ _ _ (HX.out.mono hE0))).mono ?_
    rintro e w1 ⟨rfl, E1⟩
    replace E1 := E1
    replace c0 := E1.cell c0
    replace c1 := E1.cell c1
    go_wp2_with fail
    refine (asB hr (isRatio_c _ _ _)).mono ?_
    rintro e wr ⟨rfl, ER⟩
    replace c0 := ER.cell c0
    replace c1 := ER.cell c1
    have E := (hE0.trans E1).trans ER
    go_wp2
    go_ret2
    exact ⟨none, 0, rfl, OwnM.nil _ _, E⟩
  obtain ⟨hb1, hb2⟩ := isRat_bd2 hr
  simp only at hb1 hb2
  have hd : -1000000 ≤ den ∧ den ≤ 1000000 := by omega
  have e : shiftV x (num, den) = chkM (shiftM x num den) := by simp [shiftV, hs, hr]
  rw [e]; clear e
  have hck : ∀ p, chkM p = if allM p then (p, 0) else ([], 3) := fun _ => rfl
  rw [hck]; clear hck
  have him : isMat (shiftM x num den) = allM (shiftM x num den) := isMat_mk _ hl1 hl2 hl1 hl2
  clear rx
  cases h4 : allM (shiftM x num den)
  · rw [h4] at him
    go_enter Try.func56, Try.ntmps56
    go_wp2_with fail
    refine (asB hs (isSquare_c _ _ _ _ (HX.out.mono hE0))).mono ?_
    rintro e w1 ⟨rfl, E1⟩
    replace E1 := E1
    replace c0 := E1.cell c0
    replace c1 := E1.cell c1
    go_wp2_with fail
    refine (asB hr (isRatio_c _ _ _)).mono ?_
    rintro e wr ⟨rfl, ER⟩
    replace c0 := ER.cell c0
    replace c1 := ER.cell c1
    have E := (hE0.trans E1).trans ER
    go_wp2_with fail
    refine (shifted_c _ _ _ _ _ _ (HX.out.mono E) hs hb1 hd).mono ?_
    rintro e w3 ⟨a3, c3, rfl, hO, E3⟩
    have EE := E.trans E3
    have hP := hO.mono E.size
    clear hO c0 c1
    have hck := checkedMatrix_c a3 c3 (shiftM x num den) w3 hP.mat
    rw [h4] at hck
    simp only [if_true, Bool.false_eq_true, if_false] at hck
    go_wp2_with fail
    refine hck.mono ?_
    rintro e w4 ⟨rfl, rfl⟩
    clear hck
    go_wp2
    go_ret2
    exact ⟨none, 0, rfl, OwnM.nil _ _, EE⟩
  · rw [h4] at him
    go_enter Try.func56, Try.ntmps56
    go_wp2_with fail
    refine (asB hs (isSquare_c _ _ _ _ (HX.out.mono hE0))).mono ?_
    rintro e w1 ⟨rfl, E1⟩
    replace E1 := E1
    replace c0 := E1.cell c0
    replace c1 := E1.cell c1
    go_wp2_with fail
    refine (asB hr (isRatio_c _ _ _)).mono ?_
    rintro e wr ⟨rfl, ER⟩
    replace c0 := ER.cell c0
    replace c1 := ER.cell c1
    have E := (hE0.trans E1).trans ER
    go_wp2_with fail
    refine (shifted_c _ _ _ _ _ _ (HX.out.mono E) hs hb1 hd).mono ?_
    rintro e w3 ⟨a3, c3, rfl, hO, E3⟩
    have EE := E.trans E3
    have hP := hO.mono E.size
    clear hO c0 c1
    have hck := checkedMatrix_c a3 c3 (shiftM x num den) w3 hP.mat
    rw [h4] at hck
    simp only [if_true, Bool.false_eq_true, if_false] at hck
    go_wp2_with fail
    refine hck.mono ?_
    rintro e w4 ⟨rfl, rfl⟩
    clear hck
    go_wp2
    go_ret2
    exact ⟨a3, c3, rfl, hP, EE⟩

set_option maxHeartbeats 400000 in
theorem specShift_c (a : Option Addr) (ca : Nat) (x : List (List Int)) (num den : Int) (w : World) (hx : MatAt w a x) : Calls Try.prog 57 #[.slice a x.length ca, .agg #[.int .i64 num, .int .i64 den]] w (GivesM2 w (shiftV x (num, den)).1 (shiftV x (num, den)).2) := by
  obtain ⟨W, hW, HBx, hs2, hE0⟩ := alloc2_facts w (.int .i64 num) (.int .i64 den) 55
  obtain ⟨c0, c1, -, -⟩ := HBx
  have HX := Lib.hid hx
  clear hx
  cases hs : isSq x
  · have e : shiftV x (num, den) = ([], 1) := by simp [shiftV, hs]
    rw [e]; clear e
    go_enter Try.func57, Try.ntmps57
    go_wp2_with fail
    refine (asB hs (l02Square_c _ _ _ _ (HX.out.mono hE0))).mono ?_
    rintro e w1 ⟨rfl, E1⟩
    replace E1 := E1.ext
    replace c0 := E1.cell c0
    replace c1 := E1.cell c1
    go_wp2
    go_ret2
    exact ⟨none, 0, rfl, OwnM.nil _ _, hE0.trans E1⟩
  obtain ⟨rx, hl1, hl2⟩ := isSq_rect hs
  cases hr : isRat (num, den)
  · have e : shiftV x (num, den) = ([], 1) := by simp [shiftV, hr]
    rw [e]; clear e
    go_enter Try.func57, Try.ntmps57
    go_wp2_with fail
    refine (asB hs (l02Square_c _ _ _ _ (HX.out.mono hE0))).mono ?_
    rintro e w1 ⟨rfl, E1⟩
    replace E1 := E1.ext
    replace c0 := E1.cell c0
    replace c1 := E1.cell c1
    go_wp2_with fail
    refine (asB hr (sIsRatio_c _ _ _)).mono ?_
    rintro e wr ⟨rfl, ER⟩
    replace c0 := ER.cell c0
    replace c1 := ER.cell c1
    have E := (hE0.trans E1).trans ER
    go_wp2
    go_ret2
    exact ⟨none, 0, rfl, OwnM.nil _ _, E⟩
  obtain ⟨hb1, hb2⟩ := isRat_bd2 hr
  simp only at hb1 hb2
  have hd : -1000000 ≤ den ∧ den ≤ 1000000 := by omega
  have e : shiftV x (num, den) = chkM (shiftM x num den) := by simp [shiftV, hs, hr]
  rw [e]; clear e
  have hck : ∀ p, chkM p = if allM p then (p, 0) else ([], 3) := fun _ => rfl
  rw [hck]; clear hck
  have him : isMat (shiftM x num den) = allM (shiftM x num den) := isMat_mk _ hl1 hl2 hl1 hl2
  clear rx
  cases h4 : allM (shiftM x num den)
  · rw [h4] at him
    go_enter Try.func57, Try.ntmps57
    go_wp2_with fail
    refine (asB hs (l02Square_c _ _ _ _ (HX.out.mono hE0))).mono ?_
    rintro e w1 ⟨rfl, E1⟩
    replace E1 := E1.ext
    replace c0 := E1.cell c0
    replace c1 := E1.cell c1
    go_wp2_with fail
    refine (asB hr (sIsRatio_c _ _ _)).mono ?_
    rintro e wr ⟨rfl, ER⟩
    replace c0 := ER.cell c0
    replace c1 := ER.cell c1
    have E := (hE0.trans E1).trans ER
    go_wp2_with fail
    refine (l04Shift_c _ _ _ _ _ _ (HX.out.mono E) hs hb1 hd).mono ?_
    rintro e w3 ⟨a3, c3, rfl, hO, E3⟩
    have EE := E.trans E3
    have hP := hO.mono E.size
    clear hO c0 c1
    go_wp2_with fail
    refine (asB him (sIsMatrix_c _ _ _ _ hP.mat)).mono ?_
    rintro e w4 ⟨rfl, hq⟩
    replace EE := EE.qt hq
    replace hP := hP.ext hq.ext
    go_wp2
    go_ret2
    exact ⟨none, 0, rfl, OwnM.nil _ _, EE⟩
  · rw [h4] at him
    go_enter Try.func57, Try.ntmps57
    go_wp2_with fail
    refine (asB hs (l02Square_c _ _ _ _ (HX.out.mono hE0))).mono ?_
    rintro e w1 ⟨rfl, E1⟩
    replace E1 := E1.ext
    replace c0 := E1.cell c0
    replace c1 := E1.cell c1
    go_wp2_with fail
    refine (asB hr (sIsRatio_c _ _ _)).mono ?_
    rintro e wr ⟨rfl, ER⟩
    replace c0 := ER.cell c0
    replace c1 := ER.cell c1
    have E := (hE0.trans E1).trans ER
    go_wp2_with fail
    refine (l04Shift_c _ _ _ _ _ _ (HX.out.mono E) hs hb1 hd).mono ?_
    rintro e w3 ⟨a3, c3, rfl, hO, E3⟩
    have EE := E.trans E3
    have hP := hO.mono E.size
    clear hO c0 c1
    go_wp2_with fail
    refine (asB him (sIsMatrix_c _ _ _ _ hP.mat)).mono ?_
    rintro e w4 ⟨rfl, hq⟩
    replace EE := EE.qt hq
    replace hP := hP.ext hq.ext
    go_wp2
    go_ret2
    exact ⟨a3, c3, rfl, hP, EE⟩

theorem powS_rect {n : Nat} {a : List (List Int)} {k : Nat} {p : List (List Int)} (h : powS n a k = some p) : Rect p n n := by
  obtain ⟨f, rfl⟩ := powS_form h; exact rect_mk _ _ _
set_option maxHeartbeats 1000000 in
theorem implPow_c (a : Option Addr) (ca : Nat) (x : List (List Int)) (n : Int) (w : World) (hx : MatAt w a x) : Calls Try.prog 19 #[.slice a x.length ca, .int .i64 n] w (GivesM2 w (powMV x n).1 (powMV x n).2) := by
  cases h1 : isMat x
  · have e : powMV x n = ([], 1) := by simp [powMV, h1]
    rw [e]; clear e
    go_enter Try.func19, Try.ntmps19
    go_wp2_with fail
    refine (asB h1 (isMatrix_c _ _ _ _ hx)).mono ?_
    rintro e w1 ⟨rfl, E1⟩
    go_wp2
    go_ret2
    exact ⟨none, 0, rfl, OwnM.nil _ _, E1⟩
  cases h2 : inR n 0 100
  · have e : powMV x n = ([], 2) := by simp [powMV, h1, h2]
    rw [e]; clear e
    go_enter Try.func19, Try.ntmps19
    go_wp2_with fail
    refine (asB h1 (isMatrix_c _ _ _ _ hx)).mono ?_
    rintro e w1 ⟨rfl, E1⟩
    go_wp2_with fail
    refine (asB h2 (within_c _ _ _ _)).mono ?_
    rintro e w2 ⟨rfl, rfl⟩
    go_wp2
    go_ret2
    exact ⟨none, 0, rfl, OwnM.nil _ _, E1⟩
  obtain ⟨hr1, hr2, hr3, hr4, hr5⟩ := isMat_rect h1
  have hz : (0 : Int) < (x.length : Int) := by omega
  obtain ⟨p, o, rfl⟩ := hx.base (by omega)
  obtain ⟨q, oq, cq, d1, -, -⟩ := hx.hdr hr1 (show 0 < x.length by omega) (by omega)
  rw [Nat.add_zero] at d1
  have hxl := hx.len
  by_cases h3 : x.length = (row x 0).length
  case neg =>
    have e : powMV x n = ([], 5) := by simp [powMV, h1, h2, h3]
    rw [e]; clear e
    have h3' : ((x.length : Int) != ((row x 0).length : Int)) = true := by simp; omega
    clear h3 hr1
    go_enter Try.func19, Try.ntmps19
    go_wp2_with fail
    refine (asB h1 (isMatrix_c _ _ _ _ hx)).mono ?_
    rintro e w1 ⟨rfl, E1⟩
    replace E1 := E1
    replace d1 := E1.cell d1
    go_wp2_with fail
    refine (asB h2 (within_c _ _ _ _)).mono ?_
    rintro e w2 ⟨rfl, rfl⟩
    go_wp2
    go_ret2
    exact ⟨none, 0, rfl, OwnM.nil _ _, E1⟩
  have e : powMV x n = optM (powS x.length x n.toNat) := by unfold powMV; rw [h1, h2, if_pos rfl, if_pos rfl, if_pos h3]
  rw [e]; clear e
  have hb := inR_iff.1 h2
  obtain ⟨m, rfl⟩ : ∃ m : Nat, n = (m : Int) := ⟨n.toNat, by omega⟩
  have hm : m ≤ 100 := by omega
  rw [show ((m : Int)).toNat = m from rfl]
  have h3' : ((x.length : Int) != ((row x 0).length : Int)) = false := by simp; omega
  rw [← h3] at hr1
  have HX := Lib.hid (And.intro hx (And.intro hr1 ((isMat_ebd h1).mono (show (1000000000000000 : Int) ≤ 4000000000000000000 by omega))))
  clear h3 hr1 hb
  go_enter Try.func19, Try.ntmps19
  go_wp2_with fail
  refine (asB h1 (isMatrix_c _ _ _ _ hx)).mono ?_
  rintro e w1 ⟨rfl, E1⟩
  replace d1 := E1.cell d1
  go_wp2_with fail
  refine (asB h2 (within_c _ _ _ _)).mono ?_
  rintro e w2 ⟨rfl, rfl⟩
  go_wp2_with fail
  refine (unitMatrix_c x.length _ (by omega)).mono ?_
  rintro e w2 ⟨au, cu, rfl, hO, E2⟩
  rw [mkMat_len]
  rw [mkMat_len] at hO
  replace hO := hO.mono E1.size
  have E := E1.trans E2
  clear hx h1 h2 d1 E1 E2
  go_wp2
  go_loopw [6, 26] (fun s i wr => ∃ (k : Nat) (pw : List (List Int)) (ao : Option Addr) (co : Nat), k ≤ m ∧ i = .int .i64 k ∧ Ext w wr ∧ s = .slice ao x.length co ∧ OwnM wr w.heap.size (.slice ao x.length co) pw ∧ Hid (powS x.length x k = some pw)) (fun _ i _ => m - (intOf i).toNat)
  case atStart => exact ⟨0, _, au, cu, Nat.zero_le _, rfl, E, rfl, hO, rfl⟩
  case round =>
    obtain ⟨k, pw, ao, co, hk, rfl, hE, rfl, hO2, hP⟩ := hrel
    clear hO E
    by_cases hlt : k < m
    · have hrp := powS_rect hP.out
      have hmu := multiply_c ao (some ⟨p, o, none⟩) co ca x.length x.length x.length pw x wr hO2.mat (HX.out.1.mono hE) hrp HX.out.2.1 (by omega) (by omega) (by omega) (by omega) (by omega) ((allM_ebd hrp (powS_val hP.out)).mono (by omega)) HX.out.2.2
      rw [hrp.1] at hmu
      have hst : powS x.length x (k + 1) = if allM (mkMat x.length x.length (mulE x.length pw x)) then some (mkMat x.length x.length (mulE x.length pw x)) else none := by
        show (match powS x.length x k with | none => none | some p => _) = _
        rw [hP.out]
      have hlen : (mkMat x.length x.length (mulE x.length pw x)).length = x.length := mkMat_len _ _ _
      clear hrp
      generalize mkMat x.length x.length (mulE x.length pw x) = R at *
      cases h4 : allM R
      · rw [h4] at hst
        have hno : powS x.length x m = none := by
          have := powS_mono (a := x) (n := x.length) (k := k + 1) (by simpa using hst) (m - (k + 1))
          rwa [show k + 1 + (m - (k + 1)) = m by omega] at this
        have Hno := Lib.hid hno
        have H4 := Lib.hid h4
        have HM := Lib.hid hmu
        have HL := Lib.hid hlen
        clear hst hno h4 hmu hlen
        go_wp2_with fail
        refine HM.out.mono ?_
        rintro e w3 ⟨a3, c3, rfl, hO3, E3⟩
        have hck := checkedMatrix_c a3 c3 R w3 hO3.mat
        rw [HL.out, H4.out] at hck
        simp only [if_true, Bool.false_eq_true, if_false] at hck
        rw [HL.out]
        go_wp2_with fail
        refine hck.mono ?_
        rintro e w4 ⟨rfl, rfl⟩
        clear hck
        go_wp2
        go_ret2
        rw [Hno.out]
        exact ⟨none, 0, rfl, OwnM.nil _ _, hE.trans E3⟩
      · rw [h4, if_pos rfl] at hst
        have Hst := Lib.hid hst
        have H4 := Lib.hid h4
        have HM := Lib.hid hmu
        have HL := Lib.hid hlen
        clear hst h4 hmu hlen
        go_wp2_with fail
        refine HM.out.mono ?_
        rintro e w3 ⟨a3, c3, rfl, hO3, E3⟩
        have hck := checkedMatrix_c a3 c3 R w3 hO3.mat
        rw [HL.out, H4.out] at hck
        simp only [if_true, Bool.false_eq_true, if_false] at hck
        rw [HL.out]
        rw [HL.out] at hO3
        go_wp2_with fail
        refine hck.mono ?_
        rintro e w4 ⟨rfl, rfl⟩
        clear hck
        go_wp2
        go_roundw
        case rel => exact ⟨k + 1, R, a3, c3, by omega, by go_num, hE.trans E3, rfl, hO3.mono hE.size, Hst⟩
        case measure => simp [intOf]; omega
    · obtain rfl : m = k := by omega
      go_wp2
      go_ret2
      rw [hP.out]
      have hl := (powS_rect hP.out).1
      refine ⟨ao, co, ?_, by simp only [optM]; rw [hl]; exact hO2, hE⟩
      simp only [optM]; rw [hl]; rfl

set_option maxHeartbeats 1000000 in
theorem l02Power_c (a : Option Addr) (ca : Nat) (x : List (List Int)) (m : Nat) (w : World) (hx : MatAt w a x) (rx : Rect x x.length x.length) (hl1 : 1 ≤ x.length) (hl2 : x.length ≤ 10) (hb : EBd 4000000000000000000 x) (hm : m ≤ 100) :
    Calls Try.prog 82 #[.slice a x.length ca, .int .i64 (m : Int)] w (GivesM2 w (optM (powS x.length x m)).1 (optM (powS x.length x m)).2) := by
  have HX := Lib.hid (And.intro hx (And.intro rx hb))
  have hxl := hx.len
  clear hx rx hb
  go_enter Try.func82, Try.ntmps82
  go_wp2_with fail
  refine (l02Unit_c x.length _ (by omega)).mono ?_
  rintro e w1 ⟨au, cu, rfl, hO, E⟩
  rw [mkMat_len]
  rw [mkMat_len] at hO
  go_wp2
  go_loopw [6, 1] (fun s i wr => ∃ (k : Nat) (pw : List (List Int)) (ao : Option Addr) (co : Nat), k ≤ m ∧ i = .int .i64 ((m - k : Nat) : Int) ∧ Ext w wr ∧ s = .slice ao x.length co ∧ OwnM wr w.heap.size (.slice ao x.length co) pw ∧ Hid (powS x.length x k = some pw)) (fun _ i _ => (intOf i).toNat)
  case atStart => exact ⟨0, _, au, cu, Nat.zero_le _, rfl, E, rfl, hO, rfl⟩
  case round =>
    obtain ⟨k, pw, ao, co, hk, rfl, hE, rfl, hO2, hP⟩ := hrel
    clear hO E
    by_cases hlt : k < m
    · have hrp := powS_rect hP.out
      have hmu := l02Multiply_c ao a co ca x.length x.length x.length pw x wr hO2.mat (HX.out.1.mono hE) hrp HX.out.2.1 (by omega) (by omega) (by omega) (by omega) (by omega) ((allM_ebd hrp (powS_val hP.out)).mono (by omega)) HX.out.2.2
      rw [hrp.1] at hmu
      have hst : powS x.length x (k + 1) = if allM (mkMat x.length x.length (mulE x.length pw x)) then some (mkMat x.length x.length (mulE x.length pw x)) else none := by
        show (match powS x.length x k with | none => none | some p => _) = _
        rw [hP.out]
      have hlen : (mkMat x.length x.length (mulE x.length pw x)).length = x.length := mkMat_len _ _ _
      have him : isMat (mkMat x.length x.length (mulE x.length pw x)) = allM (mkMat x.length x.length (mulE x.length pw x)) := isMat_mk _ hl1 hl2 hl1 hl2
      obtain ⟨j, hj⟩ : ∃ j, m - k = j + 1 := ⟨m - k - 1, by omega⟩
      have hj2 : m - (k + 1) = j := by omega
      rw [hj]
      have hjb : j ≤ 100 := by omega
      have Hj := Lib.hid hj2
      clear hrp hj hj2
      generalize mkMat x.length x.length (mulE x.length pw x) = R at *
      cases h4 : allM R
      · rw [h4] at hst him
        have hno : powS x.length x m = none := by
          have := powS_mono (a := x) (n := x.length) (k := k + 1) (by simpa using hst) (m - (k + 1))
          rwa [show k + 1 + (m - (k + 1)) = m by omega] at this
        have Hno := Lib.hid hno
        have H4 := Lib.hid him
        have HM := Lib.hid hmu
        have HL := Lib.hid hlen
        clear hst hno h4 hmu hlen him
        go_wp2_with fail
        refine HM.out.mono ?_
        rintro e w3 ⟨a3, c3, rfl, hO3, E3⟩
        have hck := asB H4.out (sIsMatrix_c a3 c3 R w3 hO3.mat)
        rw [HL.out] at hck
        rw [HL.out]
        go_wp2_with fail
        refine hck.mono ?_
        rintro e w4 ⟨rfl, hq⟩
        clear hck
        go_wp2
        go_ret2
        rw [Hno.out]
        exact ⟨none, 0, rfl, OwnM.nil _ _, (hE.trans E3).qt hq⟩
      · rw [h4, if_pos rfl] at hst
        rw [h4] at him
        have Hst := Lib.hid hst
        have H4 := Lib.hid him
        have HM := Lib.hid hmu
        have HL := Lib.hid hlen
        clear hst h4 hmu hlen him
        go_wp2_with fail
        refine HM.out.mono ?_
        rintro e w3 ⟨a3, c3, rfl, hO3, E3⟩
        have hck := asB H4.out (sIsMatrix_c a3 c3 R w3 hO3.mat)
        rw [HL.out] at hck
        rw [HL.out]
        rw [HL.out] at hO3
        go_wp2_with fail
        refine hck.mono ?_
        rintro e w4 ⟨rfl, hq⟩
        clear hck
        go_wp2
        go_roundw
        case rel => exact ⟨k + 1, R, a3, c3, by omega, by rw [Hj.out], (hE.trans E3).qt hq, rfl, (hO3.ext hq.ext).mono hE.size, Hst⟩
        case measure => simp [intOf]
    · obtain rfl : m = k := by omega
      rw [Nat.sub_self]
      go_wp2
      go_ret2
      rw [hP.out]
      have hl := (powS_rect hP.out).1
      refine ⟨ao, co, ?_, by simp only [optM]; rw [hl]; exact hO2, hE⟩
      simp only [optM]; rw [hl]; rfl
set_option maxHeartbeats 400000 in
theorem specPow_c (a : Option Addr) (ca : Nat) (x : List (List Int)) (n : Int) (w : World) (hx : MatAt w a x) : Calls Try.prog 20 #[.slice a x.length ca, .int .i64 n] w (GivesM2 w (powMV x n).1 (powMV x n).2) := by
  cases h1 : isMat x
  · have e : powMV x n = ([], 1) := by simp [powMV, h1]
    rw [e]; clear e
    go_enter Try.func20, Try.ntmps20
    go_wp2_with fail
    refine (asB h1 (sIsMatrix_c _ _ _ _ hx)).mono ?_
    rintro e w1 ⟨rfl, E1⟩
    go_wp2
    go_ret2
    exact ⟨none, 0, rfl, OwnM.nil _ _, E1.ext⟩
  cases h2 : inR n 0 100
  · have e : powMV x n = ([], 2) := by simp [powMV, h1, h2]
    rw [e]; clear e
    go_enter Try.func20, Try.ntmps20
    go_wp2_with fail
    refine (asB h1 (sIsMatrix_c _ _ _ _ hx)).mono ?_
    rintro e w1 ⟨rfl, E1⟩
    go_wp2_with fail
    refine (asB h2 (l01In_c _ _ _ _)).mono ?_
    rintro e w2 ⟨rfl, rfl⟩
    go_wp2
    go_ret2
    exact ⟨none, 0, rfl, OwnM.nil _ _, E1.ext⟩
  obtain ⟨hr1, hr2, hr3, hr4, hr5⟩ := isMat_rect h1
  have hz : (0 : Int) < (x.length : Int) := by omega
  obtain ⟨p, o, rfl⟩ := hx.base (by omega)
  obtain ⟨q, oq, cq, d1, -, -⟩ := hx.hdr hr1 (show 0 < x.length by omega) (by omega)
  rw [Nat.add_zero] at d1
  have hxl := hx.len
  by_cases h3 : x.length = (row x 0).length
  case neg =>
    have e : powMV x n = ([], 5) := by simp [powMV, h1, h2, h3]
    rw [e]; clear e
    have h3' : ((x.length : Int) != ((row x 0).length : Int)) = true := by simp; omega
    clear h3 hr1
    go_enter Try.func20, Try.ntmps20
    go_wp2_with fail
    refine (asB h1 (sIsMatrix_c _ _ _ _ hx)).mono ?_
    rintro e w1 ⟨rfl, E1⟩
    replace E1 := E1.ext
    replace d1 := E1.cell d1
    go_wp2_with fail
    refine (asB h2 (l01In_c _ _ _ _)).mono ?_
    rintro e w2 ⟨rfl, rfl⟩
    go_wp2
    go_ret2
    exact ⟨none, 0, rfl, OwnM.nil _ _, E1⟩
  have e : powMV x n = optM (powS x.length x n.toNat) := by unfold powMV; rw [h1, h2, if_pos rfl, if_pos rfl, if_pos h3]
  rw [e]; clear e
  have hb := inR_iff.1 h2
  obtain ⟨m, rfl⟩ : ∃ m : Nat, n = (m : Int) := ⟨n.toNat, by omega⟩
  have hm : m ≤ 100 := by omega
  rw [show ((m : Int)).toNat = m from rfl]
  have h3' : ((x.length : Int) != ((row x 0).length : Int)) = false := by simp; omega
  rw [← h3] at hr1
  have HX := Lib.hid (And.intro hx (And.intro hr1 ((isMat_ebd h1).mono (show (1000000000000000 : Int) ≤ 4000000000000000000 by omega))))
  clear h3 hr1 hb
  generalize hV : optM (powS x.length x m) = V
  have HV := Lib.hid hV
  clear hV
  go_enter Try.func20, Try.ntmps20
  go_wp2_with fail
  refine (asB h1 (sIsMatrix_c _ _ _ _ hx)).mono ?_
  rintro e w1 ⟨rfl, E1⟩
  replace E1 := E1.ext
  replace d1 := E1.cell d1
  go_wp2_with fail
  refine (asB h2 (l01In_c _ _ _ _)).mono ?_
  rintro e w2 ⟨rfl, rfl⟩
  go_wp2_with fail
  refine (l02Power_c _ _ x m _ (HX.out.1.mono E1) HX.out.2.1 (by omega) (by omega) HX.out.2.2 hm).mono ?_
  rw [HV.out]
  rintro e w2 ⟨ao, co, rfl, hO, E2⟩
  go_wp2
  go_ret2
  exact ⟨ao, co, rfl, hO.mono E1.size, E1.trans E2⟩
end Go.Proofs.Ytokhkpbebimohaa
