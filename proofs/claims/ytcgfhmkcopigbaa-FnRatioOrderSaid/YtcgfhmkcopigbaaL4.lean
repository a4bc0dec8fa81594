/- The walk of the law over drawn ratios. Conditions: the code lies in memory. -/
import Derived.IntWalk
import Derived.Test.YtcgfhmkcopigbaaD2
import Derived.Test.YtcgfhmkcopigbaaS2
namespace Go.Proofs.Ytcgfhmkcopigbaa
set_option linter.unusedVariables false
open Go.RowKit

theorem cmpI_swap (x y : Int) : cmpI y x = -cmpI x y := by unfold cmpI; split <;> split <;> omega
theorem cmpRV_swap (a b : Int × Int) : (cmpRV b a).2 = (cmpRV a b).2 ∧ (cmpRV b a).1 = -(cmpRV a b).1 := by
  unfold cmpRV
  rw [Bool.and_comm]
  split
  · exact ⟨rfl, cmpI_swap _ _⟩
  · exact ⟨rfl, rfl⟩

theorem ratOf_pos {a b : Int} (hb : 0 < b) : (a.tdiv (gcdI a b)) * b = a * (b.tdiv (gcdI a b)) ∧ 1 ≤ b.tdiv (gcdI a b) ∧ b.tdiv (gcdI a b) ≤ b ∧ (a.tdiv (gcdI a b)).natAbs ≤ a.natAbs ∧ gcdI (a.tdiv (gcdI a b)) (b.tdiv (gcdI a b)) = 1 := by
  have hg := (gcdI_le (a := a) hb).1
  obtain ⟨p, hp⟩ : gcdI a b ∣ a := Int.gcd_dvd_left a b
  obtain ⟨q, hq⟩ : gcdI a b ∣ b := Int.gcd_dvd_right a b
  have h1 : Int.gcd a b = (gcdI a b).natAbs * Int.gcd p q := by
    have := Int.gcd_mul_left (gcdI a b) p q
    rw [← hp, ← hq] at this; exact this
  obtain ⟨g, hgg⟩ : ∃ g, gcdI a b = g := ⟨_, rfl⟩
  have h2 : (Int.gcd a b : Int) = g := hgg
  rw [hgg] at h1 hg hp hq ⊢
  have e1 : a.tdiv g = p := by rw [hp]; exact Int.mul_tdiv_cancel_left p (by omega)
  have e2 : b.tdiv g = q := by rw [hq]; exact Int.mul_tdiv_cancel_left q (by omega)
  have h3 : Int.gcd p q = 1 := by
    have h4 : g.natAbs * Int.gcd p q = g.natAbs * 1 := by omega
    exact Nat.eq_of_mul_eq_mul_left (by omega) h4
  have hq0 : 0 < q := by
    rcases Int.lt_or_le 0 q with h | h
    · exact h
    · have := Int.mul_nonpos_of_nonneg_of_nonpos (Int.le_of_lt hg) h; omega
  refine ⟨?_, ?_, ?_, ?_, ?_⟩
  · rw [e1, e2]
    calc p * b = p * (g * q) := by rw [← hq]
      _ = (g * p) * q := by rw [← Int.mul_assoc, Int.mul_comm p g]
      _ = a * q := by rw [← hp]
  · omega
  · rw [e2, hq]; have := Int.mul_le_mul_of_nonneg_right (show 1 ≤ g by omega) (Int.le_of_lt hq0); omega
  · rw [Int.natAbs_tdiv]; exact Nat.div_le_self _ _
  · rw [e1, e2]; simp [gcdI, h3]

theorem mkRat_law {a b : Int} (h : (mkRat a b).2 = 0) : isRat (mkRat a b).1 = true ∧ (mkRat a b).1.1 * b = a * (mkRat a b).1.2 := by
  unfold mkRat at h ⊢
  by_cases h1 : (fin a && fin b) = true
  · by_cases h2 : b = 0
    · subst h2; simp [h1] at h
    · obtain ⟨ha, hb⟩ := Bool.and_eq_true_iff.1 h1
      have ha := fin_iff.1 ha
      have hb := fin_iff.1 hb
      simp only [h1, h2, if_true, if_false]
      unfold ratOf
      by_cases hn : b < 0
      · have hs : sgnR a b = (-a, -b) := by simp [sgnR, hn]
        obtain ⟨k1, k2, k3, k4, k5⟩ := ratOf_pos (a := -a) (b := -b) (by omega)
        rw [hs]
        dsimp only
        refine ⟨?_, ?_⟩
        · simp only [isRat, Bool.and_eq_true, beq_iff_eq, fin_iff, inR_iff]
          refine ⟨⟨⟨by omega, by omega⟩, by omega, by omega⟩, k5⟩
        · rw [Int.mul_neg, Int.neg_mul] at k1; omega
      · have hs : sgnR a b = (a, b) := by simp [sgnR, hn]
        obtain ⟨k1, k2, k3, k4, k5⟩ := ratOf_pos (a := a) (b := b) (by omega)
        rw [hs]
        dsimp only
        refine ⟨?_, k1⟩
        simp only [isRat, Bool.and_eq_true, beq_iff_eq, fin_iff, inR_iff]
        exact ⟨⟨⟨by omega, by omega⟩, by omega, by omega⟩, k5⟩
  · simp [h1] at h

/-- a box made and stored into -/
theorem box_put (w : World) (x y : Value) (t : TypeId) : ∃ W, w.alloc (.cells #[.int .i64 0, .int .i64 0] t) = W ∧ Box2 W w.heap.size (.int .i64 0) (.int .i64 0) ∧ Box2 ((W.setCell ⟨w.heap.size, 0, none⟩ x).setCell ⟨w.heap.size, 1, none⟩ y) w.heap.size x y ∧ W.heap.size = w.heap.size + 1 ∧ Ext w W ∧ Ext w ((W.setCell ⟨w.heap.size, 0, none⟩ x).setCell ⟨w.heap.size, 1, none⟩ y) := by
  obtain ⟨W, h1, h2, h3, h4⟩ := alloc2_facts w (.int .i64 0) (.int .i64 0) t
  exact ⟨W, h1, h2, h2.put x y, h3, h4, (h4.set (Nat.le_refl _) _).set (Nat.le_refl _) _⟩

theorem mkRat_bd {a b : Int} (h : (mkRat a b).2 = 0) : (-1000000 ≤ a ∧ a ≤ 1000000) ∧ (-1000000 ≤ b ∧ b ≤ 1000000) := by
  unfold mkRat at h
  by_cases h1 : (fin a && fin b) = true
  · obtain ⟨ha, hb⟩ := Bool.and_eq_true_iff.1 h1
    exact ⟨fin_iff.1 ha, fin_iff.1 hb⟩
  · simp [h1] at h
theorem keepR3 {W w' : World} {p q r s u v : Addr} {x y z t m n : Value} (c0 : W.cell? p = some x) (c1 : W.cell? q = some y) (d0 : W.cell? r = some z) (d1 : W.cell? s = some t) (e0 : W.cell? u = some m) (e1 : W.cell? v = some n) (h : Ext W w') :
    Ext W w' ∧ w'.cell? p = some x ∧ w'.cell? q = some y ∧ w'.cell? r = some z ∧ w'.cell? s = some t ∧ w'.cell? u = some m ∧ w'.cell? v = some n := ⟨h, h.cell c0, h.cell c1, h.cell d0, h.cell d1, h.cell e0, h.cell e1⟩
theorem cmpRV_bd (a b : Int × Int) : -1 ≤ (cmpRV a b).1 ∧ (cmpRV a b).1 ≤ 1 := by
  unfold cmpRV cmpR cmpI
  split
  · split
    · decide
    · split <;> decide
  · decide

set_option maxHeartbeats 2000000 in
theorem FnRatioOrder_walk (ca : Option Addr) (cc : Nat) (bs : List Int) (w : World) (h : CodeAt w ca bs) :
    Calls Try.prog 8 #[.slice ca bs.length cc] w fun e w' => e = .returned (.bool true) ∧ Ext w w' := by
  go_enter Try.func8, Try.ntmps8
  go_wp2_with fail
  refine (big_c _ _ _ _ (by have := h.1; omega)).mono ?_
  rintro e w' ⟨t, rfl, rfl⟩
  cases t
  rotate_left
  · go_wp2
    go_ret
    exact ⟨rfl, Ext.refl _⟩
  go_wp2_with fail
  refine (DrawMakeRatio_c _ _ _ _ h).mono ?_
  rintro e w1 ⟨num, den, rfl, hn, hd, hE1⟩
  go_wp2_with fail
  refine (makeRatio_c _ _ _).mono ?_
  rintro e w2 ⟨rfl, hE2⟩
  have hl := mkRat_law (a := num) (b := den)
  have hE := hE1.trans hE2
  obtain ⟨W, hW, HB, HR, hs, hEW, hER⟩ := box_put w2 (.int .i64 (mkRat num den).1.1) (.int .i64 (mkRat num den).1.2) 42
  obtain ⟨c0, c1, f0, f1⟩ := HB
  go_wp2_with fail
  refine (sMakeRatio_c _ _ _).mono ?_
  rintro e w3 ⟨rfl, hE3⟩
  replace HR := HR.ext hE3
  replace hE := (hE.trans hER).trans hE3
  clear c0 c1 f0 f1 hW hE1 hE2 hE3 hER hEW hs
  obtain ⟨W', hW', HB, HM, hs, hEW, hER⟩ := box_put w3 (.int .i64 (mkRat num den).1.1) (.int .i64 (mkRat num den).1.2) 42
  obtain ⟨c0, c1, f0, f1⟩ := HB
  have hC := (h.mono hE).mono hER
  go_wp2_with fail
  refine (DrawCompareRatios_c _ _ _ _ hC).mono ?_
  rintro e w4 ⟨x, y, z, t, rfl, ⟨hx, hy⟩, ⟨hz, ht⟩, hE4⟩
  replace HR := (HR.ext hER).ext hE4
  replace HM := HM.ext hE4
  replace hE := (hE.trans hER).trans hE4
  clear c0 c1 f0 f1 hW' hE4 hER hEW hs hC
  obtain ⟨V1, hV1, HA, hsA, hEA⟩ := alloc2_facts w4 (.int .i64 0) (.int .i64 0) 42
  obtain ⟨V2, hV2, HB, hsB, hEB⟩ := alloc2_facts V1 (.int .i64 0) (.int .i64 0) 42
  rw [hsA] at HB
  replace HA := HA.ext hEB
  have HA1 := HA.put (.int .i64 x) (.int .i64 y)
  have HB1 := (HB.grown (grownBy_set V2 w4.heap.size 0 (.int .i64 x)) (by omega)).grown (grownBy_set _ w4.heap.size 1 (.int .i64 y)) (by omega)
  have HB2 := HB1.put (.int .i64 z) (.int .i64 t)
  have HA2 := (HA1.grown (grownBy_set _ (w4.heap.size + 1) 0 (.int .i64 z)) (by omega)).grown (grownBy_set _ (w4.heap.size + 1) 1 (.int .i64 t)) (by omega)
  have hEV : Ext w4 ((((V2.setCell ⟨w4.heap.size, 0, none⟩ (.int .i64 x)).setCell ⟨w4.heap.size, 1, none⟩ (.int .i64 y)).setCell ⟨w4.heap.size + 1, 0, none⟩ (.int .i64 z)).setCell ⟨w4.heap.size + 1, 1, none⟩ (.int .i64 t)) :=
    ((((hEA.trans hEB).set (Nat.le_refl _) _).set (Nat.le_refl _) _).set (Nat.le_succ _) _).set (Nat.le_succ _) _
  obtain ⟨a0, a1, a2, a3⟩ := HA
  obtain ⟨b0, b1, b2, b3⟩ := HB
  have c0 := HA2.c0
  have c1 := HA2.c1
  have d0 := HB2.c0
  have d1 := HB2.c1
  go_wp2_with fail
  refine (cmpRatios_c _ _ _ _ _).mono ?_
  rintro e w5 ⟨rfl, hE5⟩
  replace HA2 := HA2.ext hE5
  replace HB2 := HB2.ext hE5
  replace HR := (HR.ext hEV).ext hE5
  replace HM := (HM.ext hEV).ext hE5
  replace hE := (hE.trans hEV).trans hE5
  clear a0 a1 a2 a3 b0 b1 b2 b3 c0 c1 d0 d1 hEV hE5 HA1 HB1 hEA hEB hV1 hV2
  have c0 := HA2.c0
  have c1 := HA2.c1
  have d0 := HB2.c0
  have d1 := HB2.c1
  go_wp2_with fail
  refine (sCmpRatios_c _ _ _ _ _).mono ?_
  rintro e w6 ⟨rfl, hE6⟩
  replace c0 := hE6.cell c0
  replace c1 := hE6.cell c1
  replace d0 := hE6.cell d0
  replace d1 := hE6.cell d1
  go_wp2_with fail
  refine (cmpRatios_c _ _ _ _ _).mono ?_
  rintro e w7 ⟨rfl, hE7⟩
  replace c0 := hE7.cell c0
  replace c1 := hE7.cell c1
  replace d0 := hE7.cell d0
  replace d1 := hE7.cell d1
  replace HR := (HR.ext hE6).ext hE7
  replace HM := (HM.ext hE6).ext hE7
  replace hE := (hE.trans hE6).trans hE7
  clear hE6 hE7
  obtain ⟨r0, r1, _, _⟩ := HR
  obtain ⟨m0, m1, _, _⟩ := HM
  obtain ⟨q1, q2⟩ := cmpRV_swap (x, y) (z, t)
  have kb := cmpRV_bd (x, y) (z, t)
  obtain ⟨kb1, kb2⟩ := kb
  rw [q1, q2]
  generalize (cmpRV (x, y) (z, t)).1 = k at *
  generalize (cmpRV (x, y) (z, t)).2 = one at *
  have kw : IntKind.i64.wrap (-k) = -k := IntWalk.i64_in _ (by omega)
  go_wp2_with fail
  go_region_held3 (fun w' => Ext w7 w' ∧ w'.cell? ⟨w4.heap.size, 0, none⟩ = some (.int .i64 x) ∧ w'.cell? ⟨w4.heap.size, 1, none⟩ = some (.int .i64 y) ∧ w'.cell? ⟨w2.heap.size, 0, none⟩ = some (.int .i64 (mkRat num den).1.1) ∧ w'.cell? ⟨w2.heap.size, 1, none⟩ = some (.int .i64 (mkRat num den).1.2) ∧ w'.cell? ⟨w3.heap.size, 0, none⟩ = some (.int .i64 (mkRat num den).1.1) ∧ w'.cell? ⟨w3.heap.size, 1, none⟩ = some (.int .i64 (mkRat num den).1.2))
    ((refine keepR3 c0 c1 r0 r1 m0 m1 ?_; (first | exact Ext.refl _ | exact (Ext.refl _).drew | exact Ext.trans ((Ext.refl _).drew) hF | exact Ext.trans (And.left ‹_›) hF)))
    (first | (go_at_call 43; refine (sIsRatio_c _ _ _).mono ?_; rintro e w' ⟨rfl, hF⟩) | (go_at_call 42; refine (isRatio_c _ _ _).mono ?_; rintro e w' ⟨rfl, hF⟩))
  rename_i hH
  obtain ⟨hH, _, _, s0, s1, _, _⟩ := hH
  have hX := hE.trans hH
  clear c0 c1 d0 d1 r0 r1 m0 m1
  by_cases hb : (mkRat num den).2 = 0
  · obtain ⟨l1, l2⟩ := hl hb
    obtain ⟨l3, l4⟩ := mkRat_bd hb
    have l5 := isRat_bd l1
    have l6 := mul_bd l5.1 l4
    have l7 := mul_bd l3 l5.2
    go_wp2_with fail
    refine (asB l1 (isRatio_c _ _ _)).mono ?_
    rintro e w9 ⟨rfl, hE9⟩
    replace s0 := hE9.cell s0
    replace s1 := hE9.cell s1
    go_wp2_with fail
    go_ret
    exact ⟨rfl, hX.trans hE9⟩
  · go_wp2_with fail
    go_ret
    exact ⟨rfl, hX⟩

end Go.Proofs.Ytcgfhmkcopigbaa
