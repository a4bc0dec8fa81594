/- Contracts of IsEigenVector and IsSubEigen, the program's and the reference's. No condition. -/
import Derived.Test.YtknbhgphdfipeaaM13
import Derived.Test.YtknbhgphdfipeaaM8
import Derived.Test.YtknbhgphdfipeaaP7
namespace Go.Proofs.Ytknbhgphdfipeaa
set_option linter.unusedVariables false
set_option linter.unusedSimpArgs false
open Go.RowKit

def eigAsk (x : List (List Int)) (r : Int × Int) (v : List Int) : Bool := isSq x && isRat r && isVec v && (v.length == x.length) && !(sumI v == -1000000000000000)
def eigL (x : List (List Int)) (r : Int × Int) (v : List Int) (i : Nat) : Int := appF x.length (shiftM x 0 r.2) v i
def eigR (r : Int × Int) (v : List Int) (i : Nat) : Int := times (nth v i) r.1
def EigInv (x : List (List Int)) (num den : Int) (v : List Int) (k : Nat) (qo : Int) (sb : Bool) : Prop :=
  (∀ j, j < k → appF x.length (shiftM x 0 den) v j ≤ times (nth v j) num) ∧ (qo = 0 ∨ qo = -1) ∧ (qo = 0 ↔ ∀ j, j < k → appF x.length (shiftM x 0 den) v j = times (nth v j) num) ∧ (sb = true ↔ ∃ j, j < k ∧ nth v j ≠ -1000000000000000)
def allEq (x : List (List Int)) (r : Int × Int) (v : List Int) : Bool := (List.range x.length).all fun i => decide (eigL x r v i = eigR r v i)
def allLe (x : List (List Int)) (r : Int × Int) (v : List Int) : Bool := (List.range x.length).all fun i => decide (eigL x r v i ≤ eigR r v i)
theorem allEq_iff {x : List (List Int)} {r : Int × Int} {v : List Int} : allEq x r v = true ↔ ∀ i, i < x.length → eigL x r v i = eigR r v i := by
  unfold allEq; simp only [List.all_eq_true, List.mem_range, decide_eq_true_eq]
theorem allLe_iff {x : List (List Int)} {r : Int × Int} {v : List Int} : allLe x r v = true ↔ ∀ i, i < x.length → eigL x r v i ≤ eigR r v i := by
  unfold allLe; simp only [List.all_eq_true, List.mem_range, decide_eq_true_eq]
theorem allEq_no {x : List (List Int)} {r : Int × Int} {v : List Int} {i : Nat} (hi : i < x.length) (h : eigL x r v i ≠ eigR r v i) : allEq x r v = false := by
  cases e : allEq x r v
  · rfl
  · exact absurd (allEq_iff.1 e i hi) h
theorem allLe_no {x : List (List Int)} {r : Int × Int} {v : List Int} {i : Nat} (hi : i < x.length) (h : ¬ eigL x r v i ≤ eigR r v i) : allLe x r v = false := by
  cases e : allLe x r v
  · rfl
  · exact absurd (allLe_iff.1 e i hi) h
def isEigV (x : List (List Int)) (r : Int × Int) (v : List Int) : Bool := eigAsk x r v && allEq x r v
def isSubV (x : List (List Int)) (r : Int × Int) (v : List Int) : Bool := eigAsk x r v && allLe x r v
theorem times_comm (a b : Int) : times a b = times b a := by unfold times; split <;> split <;> omega
theorem sumI_le {xs : List Int} {i : Nat} (hi : i < xs.length) : ∀ k, i < k → k ≤ xs.length → nth xs i ≤ sumI (xs.take k) := by
  intro k
  induction k with
  | zero => intro h; omega
  | succ k ih =>
    intro h hk
    rw [sumI_snoc xs k (by omega)]
    by_cases e : i = k
    · subst e; omega
    · have := ih (by omega) (by omega); omega
theorem sumI_bot {xs : List Int} (h : ∀ i, i < xs.length → nth xs i = -1000000000000000) : sumI xs = -1000000000000000 := by
  have : ∀ k, k ≤ xs.length → sumI (xs.take k) = -1000000000000000 := by
    intro k
    induction k with
    | zero => intro _; rfl
    | succ k ih => intro hk; rw [sumI_snoc xs k (by omega), ih (by omega), h k (by omega)]; omega
  have h1 := this xs.length (Nat.le_refl _)
  rwa [List.take_length] at h1
theorem sumI_some {xs : List Int} (hv : allV xs = true) {i : Nat} (hi : i < xs.length) (h : nth xs i ≠ -1000000000000000) : sumI xs ≠ -1000000000000000 := by
  have h1 := sumI_le hi xs.length hi (Nat.le_refl _)
  rw [List.take_length] at h1
  have := isVal_bd (allV_iff.1 hv i hi)
  omega
theorem isVec_allV {v : List Int} (h : isVec v = true) : allV v = true := by unfold isVec at h; rw [Bool.and_eq_true] at h; exact h.2

set_option maxHeartbeats 400000 in
theorem isEigenAsked_c (a c : Option Addr) (ca cc : Nat) (x : List (List Int)) (num den : Int) (v : List Int) (w : World) (hx : MatAt w a x) (hv0 : IntsAt w c v) :
    Calls Try.prog 66 #[.slice a x.length ca, .agg #[.int .i64 num, .int .i64 den], .slice c v.length cc] w fun e w' => e = .returned (.bool (eigAsk x (num, den) v)) ∧ Ext w w' := by
  obtain ⟨W, hW, HBx, hs2, hE0⟩ := alloc2_facts w (.int .i64 num) (.int .i64 den) 29
  obtain ⟨c0, c1, -, -⟩ := HBx
  have HX := Lib.hid (And.intro hx hv0)
  have hxl := hx.len
  have hvl := hv0.len
  clear hx hv0
  cases hs : isSq x
  · have e : eigAsk x (num, den) v = false := by simp [eigAsk, hs]
    rw [e]; clear e
    go_enter Try.func66, Try.ntmps66
    go_wp2_with fail
    refine (asB hs (isSquare_c _ _ _ _ (HX.out.1.mono hE0))).mono ?_
    rintro e w1 ⟨rfl, E1⟩
    replace E1 := E1
    replace c0 := E1.cell c0
    replace c1 := E1.cell c1
    have EE := hE0.trans E1
    go_wp2
    go_ret
    exact ⟨rfl, EE⟩
  cases hr : isRat (num, den)
  · have e : eigAsk x (num, den) v = false := by simp [eigAsk, hr]
    rw [e]; clear e
    go_enter Try.func66, Try.ntmps66
    go_wp2_with fail
    refine (asB hs (isSquare_c _ _ _ _ (HX.out.1.mono hE0))).mono ?_
    rintro e w1 ⟨rfl, E1⟩
    replace E1 := E1
    replace c0 := E1.cell c0
    replace c1 := E1.cell c1
    have EE := hE0.trans E1
    go_wp2_with fail
    refine (asB hr (isRatio_c _ _ _)).mono ?_
    rintro e w2 ⟨rfl, E2⟩
    replace c0 := E2.cell c0
    replace c1 := E2.cell c1
    replace EE := EE.trans E2
    go_wp2
    go_ret
    exact ⟨rfl, EE⟩
  cases hv : isVec v
  · have e : eigAsk x (num, den) v = false := by simp [eigAsk, hv]
    rw [e]; clear e
    go_enter Try.func66, Try.ntmps66
    go_wp2_with fail
    refine (asB hs (isSquare_c _ _ _ _ (HX.out.1.mono hE0))).mono ?_
    rintro e w1 ⟨rfl, E1⟩
    replace E1 := E1
    replace c0 := E1.cell c0
    replace c1 := E1.cell c1
    have EE := hE0.trans E1
    go_wp2_with fail
    refine (asB hr (isRatio_c _ _ _)).mono ?_
    rintro e w2 ⟨rfl, E2⟩
    replace c0 := E2.cell c0
    replace c1 := E2.cell c1
    replace EE := EE.trans E2
    go_wp2_with fail
    refine (asB hv (isVector_c _ _ _ _ (HX.out.2.mono EE))).mono ?_
    rintro e w3 ⟨rfl, rfl⟩
    go_wp2
    go_ret
    exact ⟨rfl, EE⟩
  by_cases hl : v.length = x.length
  case neg =>
    have e : eigAsk x (num, den) v = false := by unfold eigAsk; rw [show (v.length == x.length) = false by simpa using hl]; simp
    rw [e]; clear e
    have hl' : ((v.length : Int) == (x.length : Int)) = false := by rw [beq_eq_false_iff_ne]; omega
    clear hl
    go_enter Try.func66, Try.ntmps66
    go_wp2_with fail
    refine (asB hs (isSquare_c _ _ _ _ (HX.out.1.mono hE0))).mono ?_
    rintro e w1 ⟨rfl, E1⟩
    replace E1 := E1
    replace c0 := E1.cell c0
    replace c1 := E1.cell c1
    have EE := hE0.trans E1
    go_wp2_with fail
    refine (asB hr (isRatio_c _ _ _)).mono ?_
    rintro e w2 ⟨rfl, E2⟩
    replace c0 := E2.cell c0
    replace c1 := E2.cell c1
    replace EE := EE.trans E2
    go_wp2_with fail
    refine (asB hv (isVector_c _ _ _ _ (HX.out.2.mono EE))).mono ?_
    rintro e w3 ⟨rfl, rfl⟩
    go_wp2
    go_ret
    exact ⟨rfl, EE⟩
  have hl' : ((v.length : Int) == (x.length : Int)) = true := by rw [hl]; simp
  have e : eigAsk x (num, den) v = (sumI v != -1000000000000000) := by unfold eigAsk; rw [hs, hr, hv, show (v.length == x.length) = true by simpa using hl]; rfl
  rw [e]; clear e hl
  go_enter Try.func66, Try.ntmps66
  go_wp2_with fail
  refine (asB hs (isSquare_c _ _ _ _ (HX.out.1.mono hE0))).mono ?_
  rintro e w1 ⟨rfl, E1⟩
  replace E1 := E1
  replace c0 := E1.cell c0
  replace c1 := E1.cell c1
  have EE := hE0.trans E1
  go_wp2_with fail
  refine (asB hr (isRatio_c _ _ _)).mono ?_
  rintro e w2 ⟨rfl, E2⟩
  replace c0 := E2.cell c0
  replace c1 := E2.cell c1
  replace EE := EE.trans E2
  go_wp2_with fail
  refine (asB hv (isVector_c _ _ _ _ (HX.out.2.mono EE))).mono ?_
  rintro e w3 ⟨rfl, rfl⟩
  go_wp2_with fail
  refine (sumOf_c _ _ _ _ (HX.out.2.mono EE)).mono ?_
  rintro e w4 ⟨rfl, rfl⟩
  go_wp2
  go_ret
  exact ⟨rfl, EE⟩

set_option maxHeartbeats 1000000 in
theorem implEig_c (a c : Option Addr) (ca cc : Nat) (x : List (List Int)) (num den : Int) (v : List Int) (w : World) (hx : MatAt w a x) (hv0 : IntsAt w c v) :
    Calls Try.prog 27 #[.slice a x.length ca, .agg #[.int .i64 num, .int .i64 den], .slice c v.length cc] w fun e w' => e = .returned (.bool (isEigV x (num, den) v)) ∧ Ext w w' := by
  obtain ⟨W, hW, HBx, hs2, hE0⟩ := alloc2_facts w (.int .i64 num) (.int .i64 den) 29
  obtain ⟨c0, c1, -, -⟩ := HBx
  have HX := Lib.hid (And.intro hx hv0)
  have hxl := hx.len
  have hvl := hv0.len
  clear hx hv0
  cases hk : eigAsk x (num, den) v
  · have e : isEigV x (num, den) v = false := by simp [isEigV, hk]
    rw [e]; clear e
    have Hk := Lib.hid hk
    clear hk
    go_enter Try.func27, Try.ntmps27
    go_wp2_with fail
    refine (asB Hk.out (isEigenAsked_c _ _ _ _ _ _ _ _ _ (HX.out.1.mono hE0) (HX.out.2.mono hE0))).mono ?_
    rintro e w1 ⟨rfl, E1⟩
    go_wp2
    go_ret
    exact ⟨rfl, hE0.trans E1⟩
  have e : isEigV x (num, den) v = allEq x (num, den) v := by simp [isEigV, hk]
  have He := Lib.hid e
  rw [e]; clear e
  have hk2 := hk
  unfold eigAsk at hk2
  simp only [Bool.and_eq_true, beq_iff_eq] at hk2
  obtain ⟨⟨⟨⟨hs, hr⟩, hv⟩, hl⟩, -⟩ := hk2
  obtain ⟨hb1, hb2⟩ := isRat_bd2 hr
  simp only at hb1 hb2
  obtain ⟨rx, hl1, hl2⟩ := isSq_rect hs
  have hd : -1000000 ≤ den ∧ den ≤ 1000000 := by omega
  have HS := Lib.hid (And.intro hs (And.intro hv (And.intro hl (And.intro ((shiftM_ebd hs (num := 0) (by omega) hd).mono (show (1000000000000000 : Int) ≤ 4000000000000000000 by omega)) ((isVec_vbd hv).mono (show (1000000000000000 : Int) ≤ 4000000000000000000 by omega))))))
  have Hk := Lib.hid hk
  have HL := Lib.hid hl
  have HR := Lib.hid rx
  clear hk hr hv hs hl rx
  go_enter Try.func27, Try.ntmps27
  go_wp2_with fail
  refine (asB Hk.out (isEigenAsked_c _ _ _ _ _ _ _ _ _ (HX.out.1.mono hE0) (HX.out.2.mono hE0))).mono ?_
  rintro e w1 ⟨rfl, E1⟩
  replace c0 := E1.cell c0
  replace c1 := E1.cell c1
  have EE := hE0.trans E1
  go_wp2_with fail
  refine (stretched_c _ _ _ _ _ (HX.out.1.mono EE) HS.out.1 hd).mono ?_
  rintro e w2 ⟨a2, k2, rfl, hO2, E2⟩
  replace c0 := E2.cell c0
  replace c1 := E2.cell c1
  replace EE := EE.trans E2
  have hap := timesVector_c a2 c k2 cc x.length x.length (shiftM x 0 den) v w2 hO2.mat (HX.out.2.mono EE) (shiftM_rect _ _ _) HL.out (by omega) (by omega) (by omega) HS.out.2.2.2.1 HS.out.2.2.2.2
  go_wp2_with fail
  refine hap.mono ?_
  rintro e w3 ⟨a3, k3, rfl, hO3, E3⟩
  clear hap
  replace c0 := E3.cell c0
  replace EE := EE.trans E3
  rw [mkRow_len]
  rw [mkRow_len] at hO3
  obtain ⟨g, rfl, -, -, hce, -⟩ := hO3.open (show 0 < x.length by omega)
  have HC := Lib.hid hce
  have HV := Lib.hid (HX.out.2.mono EE)
  clear hce hO2 hO3 c1
  go_wp2
  go_loopw [21] (fun i wr => ∃ k : Nat, k ≤ x.length ∧ i = .int .i64 k ∧ Qt w3 wr ∧ Hid (∀ j, j < k → eigL x (num, den) v j = eigR (num, den) v j)) (fun i _ => x.length - (intOf i).toNat)
  case atStart => exact ⟨0, Nat.zero_le _, rfl, Qt.refl _, fun j hj => absurd hj (Nat.not_lt_zero _)⟩
  case round =>
    obtain ⟨k, hk, rfl, hq, hj⟩ := hrel
    by_cases hlt : k < x.length
    · have d0 := hq.ext.cell (HC.out k hlt)
      rw [mkRow_nth hlt] at d0
      obtain ⟨p, o, rfl⟩ := HV.out.base (by have := HL.out; omega)
      have d1 := hq.ext.cell (HV.out.cell (i := k) (by have := HL.out; omega))
      have e0 := hq.ext.cell c0
      have hlv : v.length = x.length := HL.out
      have hbe := Lib.hid (HS.out.2.2.2.2 k)
      have hbf : Hid (-4000000000000000000 ≤ num ∧ num ≤ 4000000000000000000) := by constructor <;> omega
      have hLd : eigL x (num, den) v k = appF x.length (shiftM x 0 den) v k := rfl
      have hRd : eigR (num, den) v k = times (nth v k) num := rfl
      generalize appF x.length (shiftM x 0 den) v k = L at *
      generalize hT : times (nth v k) num = R at *
      have hT := Lib.hid hT
      generalize nth v k = z at *
      by_cases hc : L = R
      · have hc1 : (L != R) = false := by simpa using hc
        have hok : eigL x (num, den) v k = eigR (num, den) v k := by rw [hLd, hRd]; exact hc
        have Hok := Lib.hid hok
        clear hok hLd hRd hc
        go_wp2_with fail
        go_big_quiet ((go_at_call 69; exact quiet_pure (times_cT hT.out _ hbe.out hbf.out)))
        go_wp2
        go_roundw
        case rel => exact ⟨k + 1, by omega, by go_num, hq.drewN _, fun j h => by
          by_cases e : j = k
          · subst e; exact Hok.out
          · exact hj.out j (by omega)⟩
        case measure => simp [intOf]; omega
      · have hc1 : (L != R) = true := by simpa using hc
        have hno : allEq x (num, den) v = false := allEq_no hlt (by rw [hLd, hRd]; exact hc)
        have Hno := Lib.hid hno
        clear hno hLd hRd hc
        go_wp2_with fail
        go_big_quiet ((go_at_call 69; exact quiet_pure (times_cT hT.out _ hbe.out hbf.out)))
        go_wp2
        go_ret
        exact ⟨ret_bool (by rw [Hno.out]), EE.qt (hq.drewN _)⟩
    · go_wp2
      go_ret
      exact ⟨ret_bool (by rw [allEq_iff.2 fun i hi => hj.out i (by omega)]), EE.qt hq⟩

set_option maxHeartbeats 1000000 in
theorem implSub_c (a c : Option Addr) (ca cc : Nat) (x : List (List Int)) (num den : Int) (v : List Int) (w : World) (hx : MatAt w a x) (hv0 : IntsAt w c v) :
    Calls Try.prog 30 #[.slice a x.length ca, .agg #[.int .i64 num, .int .i64 den], .slice c v.length cc] w fun e w' => e = .returned (.bool (isSubV x (num, den) v)) ∧ Ext w w' := by
  obtain ⟨W, hW, HBx, hs2, hE0⟩ := alloc2_facts w (.int .i64 num) (.int .i64 den) 29
  obtain ⟨c0, c1, -, -⟩ := HBx
  have HX := Lib.hid (And.intro hx hv0)
  have hxl := hx.len
  have hvl := hv0.len
  clear hx hv0
  cases hk : eigAsk x (num, den) v
  · have e : isSubV x (num, den) v = false := by simp [isSubV, hk]
    rw [e]; clear e
    have Hk := Lib.hid hk
    clear hk
    go_enter Try.func30, Try.ntmps30
    go_wp2_with fail
    refine (asB Hk.out (isEigenAsked_c _ _ _ _ _ _ _ _ _ (HX.out.1.mono hE0) (HX.out.2.mono hE0))).mono ?_
    rintro e w1 ⟨rfl, E1⟩
    go_wp2
    go_ret
    exact ⟨rfl, hE0.trans E1⟩
  have e : isSubV x (num, den) v = allLe x (num, den) v := by simp [isSubV, hk]
  have He := Lib.hid e
  rw [e]; clear e
  have hk2 := hk
  unfold eigAsk at hk2
  simp only [Bool.and_eq_true, beq_iff_eq] at hk2
  obtain ⟨⟨⟨⟨hs, hr⟩, hv⟩, hl⟩, -⟩ := hk2
  obtain ⟨hb1, hb2⟩ := isRat_bd2 hr
  simp only at hb1 hb2
  obtain ⟨rx, hl1, hl2⟩ := isSq_rect hs
  have hd : -1000000 ≤ den ∧ den ≤ 1000000 := by omega
  have HS := Lib.hid (And.intro hs (And.intro hv (And.intro hl (And.intro ((shiftM_ebd hs (num := 0) (by omega) hd).mono (show (1000000000000000 : Int) ≤ 4000000000000000000 by omega)) ((isVec_vbd hv).mono (show (1000000000000000 : Int) ≤ 4000000000000000000 by omega))))))
  have Hk := Lib.hid hk
  have HL := Lib.hid hl
  have HR := Lib.hid rx
  clear hk hr hv hs hl rx
  go_enter Try.func30, Try.ntmps30
  go_wp2_with fail
  refine (asB Hk.out (isEigenAsked_c _ _ _ _ _ _ _ _ _ (HX.out.1.mono hE0) (HX.out.2.mono hE0))).mono ?_
  rintro e w1 ⟨rfl, E1⟩
  replace c0 := E1.cell c0
  replace c1 := E1.cell c1
  have EE := hE0.trans E1
  go_wp2_with fail
  refine (stretched_c _ _ _ _ _ (HX.out.1.mono EE) HS.out.1 hd).mono ?_
  rintro e w2 ⟨a2, k2, rfl, hO2, E2⟩
  replace c0 := E2.cell c0
  replace c1 := E2.cell c1
  replace EE := EE.trans E2
  have hap := timesVector_c a2 c k2 cc x.length x.length (shiftM x 0 den) v w2 hO2.mat (HX.out.2.mono EE) (shiftM_rect _ _ _) HL.out (by omega) (by omega) (by omega) HS.out.2.2.2.1 HS.out.2.2.2.2
  go_wp2_with fail
  refine hap.mono ?_
  rintro e w3 ⟨a3, k3, rfl, hO3, E3⟩
  clear hap
  replace c0 := E3.cell c0
  replace EE := EE.trans E3
  rw [mkRow_len]
  rw [mkRow_len] at hO3
  obtain ⟨g, rfl, -, -, hce, -⟩ := hO3.open (show 0 < x.length by omega)
  have HC := Lib.hid hce
  have HV := Lib.hid (HX.out.2.mono EE)
  clear hce hO2 hO3 c1
  go_wp2
  go_loopw [21] (fun i wr => ∃ k : Nat, k ≤ x.length ∧ i = .int .i64 k ∧ Qt w3 wr ∧ Hid (∀ j, j < k → eigL x (num, den) v j ≤ eigR (num, den) v j)) (fun i _ => x.length - (intOf i).toNat)
  case atStart => exact ⟨0, Nat.zero_le _, rfl, Qt.refl _, fun j hj => absurd hj (Nat.not_lt_zero _)⟩
  case round =>
    obtain ⟨k, hk, rfl, hq, hj⟩ := hrel
    by_cases hlt : k < x.length
    · have d0 := hq.ext.cell (HC.out k hlt)
      rw [mkRow_nth hlt] at d0
      obtain ⟨p, o, rfl⟩ := HV.out.base (by have := HL.out; omega)
      have d1 := hq.ext.cell (HV.out.cell (i := k) (by have := HL.out; omega))
      have e0 := hq.ext.cell c0
      have hlv : v.length = x.length := HL.out
      have hbe := Lib.hid (HS.out.2.2.2.2 k)
      have hbf : Hid (-4000000000000000000 ≤ num ∧ num ≤ 4000000000000000000) := by constructor <;> omega
      have hLd : eigL x (num, den) v k = appF x.length (shiftM x 0 den) v k := rfl
      have hRd : eigR (num, den) v k = times (nth v k) num := rfl
      generalize appF x.length (shiftM x 0 den) v k = L at *
      generalize hT : times (nth v k) num = R at *
      have hT := Lib.hid hT
      generalize nth v k = z at *
      by_cases hc : L ≤ R
      · skip
        have hok : eigL x (num, den) v k ≤ eigR (num, den) v k := by rw [hLd, hRd]; exact hc
        have Hok := Lib.hid hok
        clear hok hLd hRd 
        go_wp2_with fail
        go_big_quiet ((go_at_call 69; exact quiet_pure (times_cT hT.out _ hbe.out hbf.out)))
        go_wp2
        go_roundw
        case rel => exact ⟨k + 1, by omega, by go_num, hq.drewN _, fun j h => by
          by_cases e : j = k
          · subst e; exact Hok.out
          · exact hj.out j (by omega)⟩
        case measure => simp [intOf]; omega
      · have hc2 : R < L := by omega
        have hno : allLe x (num, den) v = false := allLe_no hlt (by rw [hLd, hRd]; exact hc)
        have Hno := Lib.hid hno
        clear hno hLd hRd 
        go_wp2_with fail
        go_big_quiet ((go_at_call 69; exact quiet_pure (times_cT hT.out _ hbe.out hbf.out)))
        go_wp2
        go_ret
        exact ⟨ret_bool (by rw [Hno.out]), EE.qt (hq.drewN _)⟩
    · go_wp2
      go_ret
      exact ⟨ret_bool (by rw [allLe_iff.2 fun i hi => hj.out i (by omega)]), EE.qt hq⟩

set_option maxRecDepth 100000 in
set_option maxHeartbeats 2000000 in
theorem l05Compare_c (a c : Option Addr) (ca cc : Nat) (x : List (List Int)) (num den : Int) (v : List Int) (w : World) (hx : MatAt w a x) (hv0 : IntsAt w c v) :
    Calls Try.prog 65 #[.slice a x.length ca, .agg #[.int .i64 num, .int .i64 den], .slice c v.length cc] w (fun e w' => ∃ q : Int, e = .returned (.int .i64 q) ∧ (q = 0 ↔ isEigV x (num, den) v = true) ∧ (q ≤ 0 ↔ isSubV x (num, den) v = true) ∧ Ext w w') := by
  obtain ⟨W, hW, HBx, hs2, hE0⟩ := alloc2_facts w (.int .i64 num) (.int .i64 den) 29
  obtain ⟨c0, c1, -, -⟩ := HBx
  have HX := Lib.hid (And.intro hx hv0)
  have hxl := hx.len
  have hvl := hv0.len
  clear hx hv0
  have hnot : eigAsk x (num, den) v = false → Hid (isEigV x (num, den) v = false ∧ isSubV x (num, den) v = false) := fun h => ⟨by simp [isEigV, h], by simp [isSubV, h]⟩
  cases hs : isSq x
  · have HN := hnot (by simp [eigAsk, hs])
    clear hnot
    go_enter Try.func65, Try.ntmps65
    go_wp2_with fail
    refine (asB hs (l02Square_c _ _ _ _ (HX.out.1.mono hE0))).mono ?_
    rintro e w1 ⟨rfl, E1⟩
    replace E1 := E1.ext
    replace c0 := E1.cell c0
    replace c1 := E1.cell c1
    have EE := hE0.trans E1
    go_wp2
    go_ret
    exact ⟨1, rfl, ⟨fun h => absurd h (by decide), fun h => (by rw [HN.out.1] at h; cases h)⟩, ⟨fun h => absurd h (by decide), fun h => (by rw [HN.out.2] at h; cases h)⟩, EE⟩
  cases hr : isRat (num, den)
  · have HN := hnot (by simp [eigAsk, hr])
    clear hnot
    go_enter Try.func65, Try.ntmps65
    go_wp2_with fail
    refine (asB hs (l02Square_c _ _ _ _ (HX.out.1.mono hE0))).mono ?_
    rintro e w1 ⟨rfl, E1⟩
    replace E1 := E1.ext
    replace c0 := E1.cell c0
    replace c1 := E1.cell c1
    have EE := hE0.trans E1
    go_wp2_with fail
    refine (asB hr (sIsRatio_c _ _ _)).mono ?_
    rintro e w2 ⟨rfl, E2⟩
    replace c0 := E2.cell c0
    replace c1 := E2.cell c1
    replace EE := EE.trans E2
    go_wp2
    go_ret
    exact ⟨1, rfl, ⟨fun h => absurd h (by decide), fun h => (by rw [HN.out.1] at h; cases h)⟩, ⟨fun h => absurd h (by decide), fun h => (by rw [HN.out.2] at h; cases h)⟩, EE⟩
  cases hv : isVec v
  · have HN := hnot (by simp [eigAsk, hv])
    clear hnot
    go_enter Try.func65, Try.ntmps65
    go_wp2_with fail
    refine (asB hs (l02Square_c _ _ _ _ (HX.out.1.mono hE0))).mono ?_
    rintro e w1 ⟨rfl, E1⟩
    replace E1 := E1.ext
    replace c0 := E1.cell c0
    replace c1 := E1.cell c1
    have EE := hE0.trans E1
    go_wp2_with fail
    refine (asB hr (sIsRatio_c _ _ _)).mono ?_
    rintro e w2 ⟨rfl, E2⟩
    replace c0 := E2.cell c0
    replace c1 := E2.cell c1
    replace EE := EE.trans E2
    go_wp2_with fail
    refine (asB hv (l02Vector_c _ _ _ _ (HX.out.2.mono EE))).mono ?_
    rintro e w3 ⟨rfl, rfl⟩
    go_wp2
    go_ret
    exact ⟨1, rfl, ⟨fun h => absurd h (by decide), fun h => (by rw [HN.out.1] at h; cases h)⟩, ⟨fun h => absurd h (by decide), fun h => (by rw [HN.out.2] at h; cases h)⟩, EE⟩
  by_cases hl : v.length = x.length
  case neg =>
    have HN := hnot (by unfold eigAsk; rw [show (v.length == x.length) = false by simpa using hl]; simp)
    have hl' : ((v.length : Int) != (x.length : Int)) = true := by simp; omega
    clear hl hnot
    go_enter Try.func65, Try.ntmps65
    go_wp2_with fail
    refine (asB hs (l02Square_c _ _ _ _ (HX.out.1.mono hE0))).mono ?_
    rintro e w1 ⟨rfl, E1⟩
    replace E1 := E1.ext
    replace c0 := E1.cell c0
    replace c1 := E1.cell c1
    have EE := hE0.trans E1
    go_wp2_with fail
    refine (asB hr (sIsRatio_c _ _ _)).mono ?_
    rintro e w2 ⟨rfl, E2⟩
    replace c0 := E2.cell c0
    replace c1 := E2.cell c1
    replace EE := EE.trans E2
    go_wp2_with fail
    refine (asB hv (l02Vector_c _ _ _ _ (HX.out.2.mono EE))).mono ?_
    rintro e w3 ⟨rfl, rfl⟩
    go_wp2
    go_ret
    exact ⟨1, rfl, ⟨fun h => absurd h (by decide), fun h => (by rw [HN.out.1] at h; cases h)⟩, ⟨fun h => absurd h (by decide), fun h => (by rw [HN.out.2] at h; cases h)⟩, EE⟩
  have hl' : ((v.length : Int) != (x.length : Int)) = false := by simp [hl]
  obtain ⟨hb1, hb2⟩ := isRat_bd2 hr
  simp only at hb1 hb2
  obtain ⟨rx, hl1, hl2⟩ := isSq_rect hs
  have hd : -1000000 ≤ den ∧ den ≤ 1000000 := by omega
  have hask : eigAsk x (num, den) v = (sumI v != -1000000000000000) := by unfold eigAsk; rw [hs, hr, hv, show (v.length == x.length) = true by simpa using hl]; rfl
  have HS := Lib.hid (And.intro (isVec_allV hv) (And.intro hask (And.intro hl (And.intro ((shiftM_ebd hs (num := 0) (by omega) hd).mono (show (1000000000000000 : Int) ≤ 4000000000000000000 by omega)) ((isVec_vbd hv).mono (show (1000000000000000 : Int) ≤ 4000000000000000000 by omega))))))
  have HL := Lib.hid hl
  have HNot := Lib.hid hnot
  clear hl rx hnot hask
  go_enter Try.func65, Try.ntmps65
  go_wp2_with fail
  refine (asB hs (l02Square_c _ _ _ _ (HX.out.1.mono hE0))).mono ?_
  rintro e w1 ⟨rfl, E1⟩
  replace E1 := E1.ext
  replace c0 := E1.cell c0
  replace c1 := E1.cell c1
  have EE := hE0.trans E1
  go_wp2_with fail
  refine (asB hr (sIsRatio_c _ _ _)).mono ?_
  rintro e w2 ⟨rfl, E2⟩
  replace c0 := E2.cell c0
  replace c1 := E2.cell c1
  replace EE := EE.trans E2
  go_wp2_with fail
  refine (asB hv (l02Vector_c _ _ _ _ (HX.out.2.mono EE))).mono ?_
  rintro e w3 ⟨rfl, rfl⟩
  go_wp2_with fail
  refine (l05Stretch_c _ _ _ _ _ (HX.out.1.mono EE) hs hd).mono ?_
  rintro e w4 ⟨a2, k2, rfl, hO2, E4⟩
  replace c0 := E4.cell c0
  replace c1 := E4.cell c1
  replace EE := EE.trans E4
  have hap := l02Apply_c a2 c k2 cc x.length x.length (shiftM x 0 den) v w4 hO2.mat (HX.out.2.mono EE) (shiftM_rect _ _ _) HL.out (by omega) (by omega) (by omega) HS.out.2.2.2.1 HS.out.2.2.2.2
  clear hO2
  go_wp2_with fail
  refine hap.mono ?_
  rintro e w5 ⟨a3, k3, rfl, hO3, E5⟩
  clear hap
  replace c0 := E5.cell c0
  replace EE := EE.trans E5
  rw [mkRow_len]
  rw [mkRow_len] at hO3
  obtain ⟨g, rfl, -, -, hce, -⟩ := hO3.open (show 0 < x.length by omega)
  have HC := Lib.hid hce
  have HV := Lib.hid (HX.out.2.mono EE)
  clear hce hO3 c1 hs hr hv
  go_wp2
  go_loopw [8, 9, 10] (fun q s i wr => ∃ (k : Nat) (qo : Int) (sb : Bool), k ≤ x.length ∧ i = .int .i64 k ∧ q = .int .i64 qo ∧ s = .bool sb ∧ Qt w5 wr ∧ EigInv x num den v k qo sb) (fun _ _ i _ => x.length - (intOf i).toNat)
  case atStart => exact ⟨0, 0, false, Nat.zero_le _, rfl, rfl, rfl, Qt.refl _, fun j hj => absurd hj (Nat.not_lt_zero _), .inl rfl, ⟨fun _ j hj => absurd hj (Nat.not_lt_zero _), fun _ => rfl⟩, ⟨fun h => (by cases h), fun ⟨j, hj, _⟩ => absurd hj (Nat.not_lt_zero _)⟩⟩
  case round =>
    obtain ⟨k, qo, sb, hk, rfl, rfl, rfl, hq, hj⟩ := hrel
    by_cases hlt : k < x.length
    · have d0 := hq.ext.cell (HC.out k hlt)
      rw [mkRow_nth hlt] at d0
      obtain ⟨p, o, rfl⟩ := HV.out.base (by have := HL.out; omega)
      have d1 := hq.ext.cell (HV.out.cell (i := k) (by have := HL.out; omega))
      have e0 := hq.ext.cell c0
      have hltv : k < v.length := by have := HL.out; omega
      have hbe := Lib.hid (HS.out.2.2.2.2 k)
      have hbf : Hid (-4000000000000000000 ≤ num ∧ num ≤ 4000000000000000000) := by constructor <;> omega
      have hLd : eigL x (num, den) v k = appF x.length (shiftM x 0 den) v k := rfl
      have hRd : eigR (num, den) v k = times num (nth v k) := times_comm _ _
      have hcm := times_comm num (nth v k)
      -- the state after this round
      have hnext : ∀ (q2 : Int) (s2 : Bool), eigL x (num, den) v k ≤ eigR (num, den) v k → (q2 = if eigL x (num, den) v k < eigR (num, den) v k then -1 else qo) → (s2 = (sb || (nth v k != -1000000000000000))) →
          EigInv x num den v (k + 1) q2 s2 := fun q2 s2 h1 h2 h3 => by
        obtain ⟨i1, i2, i3, i4⟩ := hj
        refine ⟨fun j h => ?_, ?_, ⟨fun h j hj => ?_, fun h => ?_⟩, ⟨fun h => ?_, fun ⟨j, h, h'⟩ => ?_⟩⟩
        · by_cases e : j = k
          · subst e; exact h1
          · exact i1 j (by omega)
        · rw [h2]; split
          · exact .inr rfl
          · exact i2
        · rw [h2] at h
          split at h
          · omega
          · by_cases e : j = k
            · subst e; omega
            · exact i3.1 h j (by omega)
        · rw [h2, if_neg (by have := h k (by omega); omega)]
          exact i3.2 fun j hj => h j (by omega)
        · rw [h3, Bool.or_eq_true] at h
          rcases h with h | h
          · obtain ⟨j, g1, g2⟩ := i4.1 h; exact ⟨j, by omega, g2⟩
          · exact ⟨k, by omega, by simpa using h⟩
        · rw [h3, Bool.or_eq_true]
          by_cases e : j = k
          · subst e; exact .inr (by simpa using h')
          · exact .inl (i4.2 ⟨j, by omega, h'⟩)
      have HNx := Lib.hid hnext
      have hbad : ¬ eigL x (num, den) v k ≤ eigR (num, den) v k → Hid (isEigV x (num, den) v = false ∧ isSubV x (num, den) v = false) := fun h =>
        ⟨by unfold isEigV; rw [allEq_no hlt (by omega)]; simp, by unfold isSubV; rw [allLe_no hlt h]; simp⟩
      have HBad := Lib.hid hbad
      have HLd := Lib.hid (And.intro hLd hRd)
      clear hnext hbad hLd hRd hj hcm
      generalize hLv : appF x.length (shiftM x 0 den) v k = L at d0
      generalize hT : times num (nth v k) = R
      have hT := Lib.hid hT
      have hLv := Lib.hid hLv
      generalize hz : nth v k = z at d1
      have Hz := Lib.hid hz
      rw [hz] at hT hbe
      clear hz
      by_cases hzb : z = -1000000000000000
      · have hz1 : (z != -1000000000000000) = false := by simp [hzb]
        rcases Int.lt_trichotomy L R with hc | hc | hc
        · have Hn := Lib.hid (HNx.out (-1) sb (by rw [HLd.out.1, HLd.out.2, hLv.out, Hz.out, hT.out]; omega) (by rw [HLd.out.1, HLd.out.2, hLv.out, Hz.out, hT.out, if_pos hc]) (by rw [Hz.out, hz1, Bool.or_false]))
          clear hzb
          cases sb
          all_goals
            go_wp2_with fail
            go_big_quiet ((go_at_call 91; exact quiet_pure (l01Times_cT hT.out _ hbf.out hbe.out)))
            go_wp2
            go_roundw
            case rel => exact ⟨k + 1, _, _, by omega, by go_num, rfl, rfl, hq.drewN _, Hn.out⟩
            case measure => simp [intOf]; omega
        · have Hn := Lib.hid (HNx.out qo sb (by rw [HLd.out.1, HLd.out.2, hLv.out, Hz.out, hT.out]; omega) (by rw [HLd.out.1, HLd.out.2, hLv.out, Hz.out, hT.out, if_neg (by omega)]) (by rw [Hz.out, hz1, Bool.or_false]))
          have hng : ¬ L < R := by omega
          have hng2 : ¬ R < L := by omega
          clear hzb hc
          cases sb
          all_goals
            go_wp2_with fail
            go_big_quiet ((go_at_call 91; exact quiet_pure (l01Times_cT hT.out _ hbf.out hbe.out)))
            go_wp2
            go_roundw
            case rel => exact ⟨k + 1, _, _, by omega, by go_num, rfl, rfl, hq.drewN _, Hn.out⟩
            case measure => simp [intOf]; omega
        · have HN := HBad.out (by rw [HLd.out.1, HLd.out.2, hLv.out, Hz.out, hT.out]; omega)
          clear hzb
          have EE := EE.qt hq
          cases sb
          all_goals
            go_wp2_with fail
            go_big_quiet ((go_at_call 91; exact quiet_pure (l01Times_cT hT.out _ hbf.out hbe.out)))
            go_wp2
            go_ret
            replace EE := EE.drewN nq
            exact ⟨1, rfl, ⟨fun h => absurd h (by decide), fun h => (by rw [HN.out.1] at h; cases h)⟩, ⟨fun h => absurd h (by decide), fun h => (by rw [HN.out.2] at h; cases h)⟩, EE⟩
      · have hz1 : (z != -1000000000000000) = true := by simpa using hzb
        rcases Int.lt_trichotomy L R with hc | hc | hc
        · have Hn := Lib.hid (HNx.out (-1) true (by rw [HLd.out.1, HLd.out.2, hLv.out, Hz.out, hT.out]; omega) (by rw [HLd.out.1, HLd.out.2, hLv.out, Hz.out, hT.out, if_pos hc]) (by rw [Hz.out, hz1, Bool.or_true]))
          clear hzb
          cases sb
          all_goals
            go_wp2_with fail
            go_big_quiet ((go_at_call 91; exact quiet_pure (l01Times_cT hT.out _ hbf.out hbe.out)))
            go_wp2
            go_roundw
            case rel => exact ⟨k + 1, _, _, by omega, by go_num, rfl, rfl, hq.drewN _, Hn.out⟩
            case measure => simp [intOf]; omega
        · have Hn := Lib.hid (HNx.out qo true (by rw [HLd.out.1, HLd.out.2, hLv.out, Hz.out, hT.out]; omega) (by rw [HLd.out.1, HLd.out.2, hLv.out, Hz.out, hT.out, if_neg (by omega)]) (by rw [Hz.out, hz1, Bool.or_true]))
          have hng : ¬ L < R := by omega
          have hng2 : ¬ R < L := by omega
          clear hzb hc
          cases sb
          all_goals
            go_wp2_with fail
            go_big_quiet ((go_at_call 91; exact quiet_pure (l01Times_cT hT.out _ hbf.out hbe.out)))
            go_wp2
            go_roundw
            case rel => exact ⟨k + 1, _, _, by omega, by go_num, rfl, rfl, hq.drewN _, Hn.out⟩
            case measure => simp [intOf]; omega
        · have HN := HBad.out (by rw [HLd.out.1, HLd.out.2, hLv.out, Hz.out, hT.out]; omega)
          clear hzb
          have EE := EE.qt hq
          cases sb
          all_goals
            go_wp2_with fail
            go_big_quiet ((go_at_call 91; exact quiet_pure (l01Times_cT hT.out _ hbf.out hbe.out)))
            go_wp2
            go_ret
            replace EE := EE.drewN nq
            exact ⟨1, rfl, ⟨fun h => absurd h (by decide), fun h => (by rw [HN.out.1] at h; cases h)⟩, ⟨fun h => absurd h (by decide), fun h => (by rw [HN.out.2] at h; cases h)⟩, EE⟩
    · obtain ⟨i1, i2, i3, i4⟩ := hj
      have hkx : k = x.length := by omega
      have hge : ¬ k < v.length := by have := HL.out; omega
      have EE := EE.qt hq
      cases sb
      · have HN := HNot.out (by
          have hlv : v.length = x.length := HL.out
          rw [HS.out.2.1, sumI_bot fun i hi => ?_]; rfl
          rcases Classical.em (nth v i = -1000000000000000) with h | h
          · exact h
          · have := i4.2 ⟨i, by omega, h⟩; cases this)
        clear i1 i2 i3 i4
        go_wp2
        go_ret
        exact ⟨1, rfl, ⟨fun h => absurd h (by decide), fun h => (by rw [HN.out.1] at h; cases h)⟩, ⟨fun h => absurd h (by decide), fun h => (by rw [HN.out.2] at h; cases h)⟩, EE⟩
      · have hsm : eigAsk x (num, den) v = true := by
          have hlv : v.length = x.length := HL.out
          obtain ⟨j, h1, h2⟩ := i4.1 rfl
          rw [HS.out.2.1]
          have := sumI_some HS.out.1 (i := j) (by omega) h2
          simpa using this
        have q1 : isEigV x (num, den) v = allEq x (num, den) v := by unfold isEigV; rw [hsm, Bool.true_and]
        have q2 : isSubV x (num, den) v = allLe x (num, den) v := by unfold isSubV; rw [hsm, Bool.true_and]
        have hQ : (qo = 0 ↔ isEigV x (num, den) v = true) ∧ (qo ≤ 0 ↔ isSubV x (num, den) v = true) := by
          rw [q1, q2, allEq_iff, allLe_iff]
          subst hkx
          exact ⟨i3, fun _ i hi => i1 i hi, fun _ => by omega⟩
        have HQ := Lib.hid hQ
        clear hQ q1 q2
        clear i1 i2 i3 i4 hsm
        go_wp2
        go_ret
        exact ⟨qo, rfl, HQ.out.1, HQ.out.2, EE⟩

theorem specEig_c (a c : Option Addr) (ca cc : Nat) (x : List (List Int)) (num den : Int) (v : List Int) (w : World) (hx : MatAt w a x) (hv0 : IntsAt w c v) :
    Calls Try.prog 25 #[.slice a x.length ca, .agg #[.int .i64 num, .int .i64 den], .slice c v.length cc] w fun e w' => e = .returned (.bool (isEigV x (num, den) v)) ∧ Ext w w' := by
  obtain ⟨W, hW, HBx, hs2, hE0⟩ := alloc2_facts w (.int .i64 num) (.int .i64 den) 29
  obtain ⟨c0, c1, -, -⟩ := HBx
  have HX := Lib.hid (And.intro hx hv0)
  have hxl := hx.len
  have hvl := hv0.len
  clear hx hv0
  go_enter Try.func25, Try.ntmps25
  go_wp2_with fail
  refine (l05Compare_c _ _ _ _ _ _ _ _ _ (HX.out.1.mono hE0) (HX.out.2.mono hE0)).mono ?_
  rintro e w1 ⟨q, rfl, hq1, hq2, E1⟩
  have hQ : decide (q = 0) = isEigV x (num, den) v := by rw [Bool.eq_iff_iff, decide_eq_true_eq]; exact hq1
  have HQ := Lib.hid hQ
  clear hQ
  clear hq1 hq2
  go_wp2
  go_ret
  exact ⟨ret_bool (by rw [← HQ.out]; try (rw [Bool.eq_iff_iff]; simp)), hE0.trans E1⟩

theorem specSub_c (a c : Option Addr) (ca cc : Nat) (x : List (List Int)) (num den : Int) (v : List Int) (w : World) (hx : MatAt w a x) (hv0 : IntsAt w c v) :
    Calls Try.prog 29 #[.slice a x.length ca, .agg #[.int .i64 num, .int .i64 den], .slice c v.length cc] w fun e w' => e = .returned (.bool (isSubV x (num, den) v)) ∧ Ext w w' := by
  obtain ⟨W, hW, HBx, hs2, hE0⟩ := alloc2_facts w (.int .i64 num) (.int .i64 den) 29
  obtain ⟨c0, c1, -, -⟩ := HBx
  have HX := Lib.hid (And.intro hx hv0)
  have hxl := hx.len
  have hvl := hv0.len
  clear hx hv0
  go_enter Try.func29, Try.ntmps29
  go_wp2_with fail
  refine (l05Compare_c _ _ _ _ _ _ _ _ _ (HX.out.1.mono hE0) (HX.out.2.mono hE0)).mono ?_
  rintro e w1 ⟨q, rfl, hq1, hq2, E1⟩
  have hQ : decide (q ≤ 0) = isSubV x (num, den) v := by rw [Bool.eq_iff_iff, decide_eq_true_eq]; exact hq2
  have HQ := Lib.hid hQ
  clear hQ
  clear hq1 hq2
  go_wp2
  go_ret
  exact ⟨ret_bool (by rw [← HQ.out]; try (rw [Bool.eq_iff_iff]; simp)), hE0.trans E1⟩

end Go.Proofs.Ytknbhgphdfipeaa
