/- The walk of FnPotentials. Condition: the code reads. -/
import Derived.Test.YtokhkpbebimohaaD14
import Derived.Test.YtokhkpbebimohaaK15
import Derived.Test.YtokhkpbebimohaaE8
import Derived.Test.YtokhkpbebimohaaE12
import Derived.Test.YtokhkpbebimohaaGS
import Derived.Deep.RegionHeld3
namespace Go.Proofs.Ytokhkpbebimohaa
set_option linter.unusedVariables false
set_option linter.unusedSimpArgs false
open Go.RowKit

theorem box_named (w : World) (x y : Value) (t : TypeId) : ∃ W P, w.alloc (.cells #[.int .i64 0, .int .i64 0] t) = W ∧ (W.setCell ⟨w.heap.size, 0, none⟩ x).setCell ⟨w.heap.size, 1, none⟩ y = P ∧ Box2 W w.heap.size (.int .i64 0) (.int .i64 0) ∧ Box2 P w.heap.size x y ∧ Ext w P := by
  obtain ⟨W, h1, h2, h3, h4, h5, h6⟩ := box_putE w x y t
  exact ⟨W, _, h1, rfl, h2, h3, h6⟩
theorem keep4 {W w' : World} {p q r s : Addr} {x y z t : Value} (c0 : W.cell? p = some x) (c1 : W.cell? q = some y) (c2 : W.cell? r = some z) (c3 : W.cell? s = some t) (h : Ext W w') : Ext W w' ∧ w'.cell? p = some x ∧ w'.cell? q = some y ∧ w'.cell? r = some z ∧ w'.cell? s = some t := ⟨h, h.cell c0, h.cell c1, h.cell c2, h.cell c3⟩
theorem asE {P : Program} {f : FuncId} {args : Array Value} {w : World} {b c : Bool} (e : b = c)
    (h : Calls P f args w fun e w' => e = .returned (.bool b) ∧ Qt w w') : Calls P f args w fun e w' => e = .returned (.bool c) ∧ Ext w w' := by
  subst e; exact h.mono fun e w' ⟨h1, h2⟩ => ⟨h1, h2.ext⟩
set_option maxRecDepth 100000 in
set_option maxHeartbeats 4000000 in
theorem FnPotentials_walk (ca : Option Addr) (cc : Nat) (bs : List Int) (w : World) (h : CodeAt w ca bs) :
    Calls Try.prog 8 #[.slice ca bs.length cc] w fun e w' => e = .returned (.bool true) ∧ Ext w w' := by
  have HCode := Lib.hid h
  go_enter Try.func8, Try.ntmps8
  go_wp2_with fail
  refine (big_c _ _ _ _ (by have := h.1; omega)).mono ?_
  rintro e w' ⟨t, rfl, rfl⟩
  cases t
  · go_wp2_with fail
    refine (DrawPotentialOf_c _ _ _ _ h).mono ?_
    rintro e w1 ⟨aa, ka, M, x, y, rfl, hOa, hla, hE1⟩
    obtain ⟨W1, P1, hW1, hP1, ⟨q0, q1, p0, p1⟩, ⟨c0, c1, -, -⟩, hB1⟩ := box_named w1 (.int .i64 x) (.int .i64 y) 55
    have HA := Lib.hid (hOa.mat.mono hB1)
    have hE1P := hE1.trans hB1
    clear hOa h hB1
    have hpi := implPotOf_c aa ka M x y P1 HA.out
    have hps := fun w' (q : Ext P1 w') => specPotOf_c aa ka M x y w' (HA.out.mono q)
    have hip := fun (h : (potV M (x, y)).2 = 0) (ax : Option Addr) (kx : Nat) w' (q : Ext P1 w') (hc : IntsAt w' ax (potV M (x, y)).1) => asB (pot_is h) (implPot_c aa ax ka kx M x y (potV M (x, y)).1 w' (HA.out.mono q) hc)
    have hcm := fun w' (q : Ext P1 w') => implCycMean_c aa ka M w' (HA.out.mono q)
    have hcc : ∀ w', Calls Try.prog 50 #[.agg #[.int .i64 ((tabV M).1).1, .int .i64 ((tabV M).1).2], .agg #[.int .i64 x, .int .i64 y]] w' fun e w'' => e = .returned (.tuple #[.int .i64 (cmpRV (tabV M).1 (x, y)).1, .int .i64 (cmpRV (tabV M).1 (x, y)).2]) ∧ Ext w' w'' := fun w' => cmpRatios_c (tabV M).1.1 (tabV M).1.2 x y w'
    have hcd := fun h0 h1 => pot_code (x := M) (r := (x, y)) h0 h1
    generalize cmpRV (tabV M).1 (x, y) = C at *
    generalize potV M (x, y) = V at *
    generalize tabV M = T at *
    have HPi := Lib.hid hpi
    have HPs := Lib.hid hps
    have HIp := Lib.hid hip
    have HCm := Lib.hid hcm
    have HCc := Lib.hid hcc
    have HCd := Lib.hid hcd
    clear hpi hps hip hcm hcc hcd
    go_wp2_with fail
    refine HPi.out.mono ?_
    rintro e w2 ⟨ax, kx, rfl, hOx, hE2⟩
    replace c0 := hE2.cell c0
    replace c1 := hE2.cell c1
    go_wp2_with fail
    refine (HPs.out _ hE2).mono ?_
    rintro e w3 ⟨as', ks, rfl, hOs, hE3⟩
    replace c0 := hE3.cell c0
    replace c1 := hE3.cell c1
    have HX := Lib.hid (hOx.ext hE3).ints
    have HS := Lib.hid hOs.ints
    have hP3 := hE2.trans hE3
    clear hOx hOs q0 q1 p0 p1
    go_wp2_with fail
    refine (DrawIsPotential_c _ _ _ _ (HCode.out.mono (hE1P.trans hP3))).mono ?_
    rintro e w4 ⟨ab, kb, N, p, q, av, kv, ys, rfl, hOb, hlb, hOv, hE4⟩
    obtain ⟨W4, P4, hW4, hP4, ⟨q0, q1, p0, p1⟩, ⟨d0, d1, -, -⟩, hB4⟩ := box_named w4 (.int .i64 p) (.int .i64 q) 55
    replace c0 := hB4.cell (hE4.cell c0)
    replace c1 := hB4.cell (hE4.cell c1)
    have HB := Lib.hid (hOb.mat.mono hB4)
    have HV := Lib.hid (hOv.ints.mono hB4)
    have hE34 := hE4.trans hB4
    clear hOb hOv hE4 hB4
    go_wp2_with fail
    refine (DrawShiftMatrix_c _ _ _ _ (HCode.out.mono ((hE1P.trans hP3).trans hE34))).mono ?_
    rintro e w5 ⟨ac, kc, Z, p', q', rfl, hOc, hlc, hE5⟩
    obtain ⟨W5, P5, hW5, hP5, ⟨r0, r1, s0, s1⟩, ⟨f0, f1, -, -⟩, hB5⟩ := box_named w5 (.int .i64 p') (.int .i64 q') 55
    replace c0 := hB5.cell (hE5.cell c0)
    replace c1 := hB5.cell (hE5.cell c1)
    replace d0 := hB5.cell (hE5.cell d0)
    replace d1 := hB5.cell (hE5.cell d1)
    have HC := Lib.hid (hOc.mat.mono hB5)
    have hE45 := hE5.trans hB5
    have hsi := implShift_c ac kc Z p' q' P5 HC.out
    have hss := fun w' (q : Ext P5 w') => specShift_c ac kc Z p' q' w' (HC.out.mono q)
    generalize shiftV Z (p', q') = Y at *
    have HSi := Lib.hid hsi
    have HSs := Lib.hid hss
    clear hOc hE5 hB5 hsi hss q0 q1 p0 p1
    go_wp2_with fail
    refine HSi.out.mono ?_
    rintro e w6 ⟨a6, k6, rfl, hO6, hE6⟩
    replace f0 := hE6.cell f0
    replace f1 := hE6.cell f1
    go_wp2_with fail
    refine (HSs.out _ hE6).mono ?_
    rintro e w7 ⟨a7, k7, rfl, hO7, hE7⟩
    have hE57 := hE6.trans hE7
    replace c0 := hE57.cell c0
    replace c1 := hE57.cell c1
    replace d0 := hE57.cell d0
    replace d1 := hE57.cell d1
    have H6 := Lib.hid (hO6.ext hE7).mat
    have H7 := Lib.hid hO7.mat
    have hE47 := hE45.trans hE57
    have hE37 := hE34.trans hE47
    have hP7 := hP3.trans hE37
    have HB7 := Lib.hid (HB.out.mono hE47)
    have HV7 := Lib.hid (HV.out.mono hE47)
    have HX7 := Lib.hid (HX.out.mono hE37)
    have HS7 := Lib.hid (HS.out.mono hE37)
    clear hO6 hO7 r0 r1 s0 s1 f0 f1 HB HV HX HS
    have hbi := fun w' (h : Ext w7 w') => implPot_c ab av kb kv N p q ys w' (HB7.out.mono h) (HV7.out.mono h)
    have hbs := fun w' (h : Ext w7 w') => specPot_c ab av kb kv N p q ys w' (HB7.out.mono h) (HV7.out.mono h)
    generalize isPotV N (p, q) ys = I at *
    have hli := fun w' (h : Ext w7 w') => asE (c := true) (by simp) (likeInts_c ax as' kx ks V.1 V.1 w' (HX7.out.mono h) (HS7.out.mono h))
    have hlt := fun w' (h : Ext w7 w') => asE (c := true) (by simp) (likeTables_c a6 a7 k6 k7 Y.1 Y.1 w' (H6.out.mono h) (H7.out.mono h))
    have HBi := Lib.hid hbi
    have HBs := Lib.hid hbs
    have HLi := Lib.hid hli
    have HLt := Lib.hid hlt
    clear hbi hbs hli hlt
    go_wp2_with fail
    go_region_held3 (fun w' => Ext w7 w' ∧ w'.cell? ⟨w1.heap.size, 0, none⟩ = some (.int .i64 x) ∧ w'.cell? ⟨w1.heap.size, 1, none⟩ = some (.int .i64 y) ∧ w'.cell? ⟨w4.heap.size, 0, none⟩ = some (.int .i64 p) ∧ w'.cell? ⟨w4.heap.size, 1, none⟩ = some (.int .i64 q))
      ((refine keep4 c0 c1 d0 d1 ?_; (first | exact (Ext.refl _).drew | exact Ext.refl _ | exact Ext.trans (And.left ‹Ext w7 _ ∧ _›) hE8 | exact Ext.trans (And.left ‹Ext w7 _ ∧ _›) hE9 | exact Ext.trans (And.left ‹Ext w7 _ ∧ _›) hE10 | exact Ext.trans (And.left ‹Ext w7 _ ∧ _›) hE11)))
      (first | (go_at_call 33; refine (HLi.out _ (And.left ‹Ext w7 _ ∧ _›)).mono ?_; rintro e w8 ⟨rfl, hE8⟩) | (go_at_call 58; refine (HBi.out _ (And.left ‹Ext w7 _ ∧ _›)).mono ?_; rintro e w9 ⟨rfl, hE9⟩) | (go_at_call 59; refine (HBs.out _ (And.left ‹Ext w7 _ ∧ _›)).mono ?_; rintro e w10 ⟨rfl, hE10⟩) | (go_at_call 17; refine (HLt.out _ (And.left ‹Ext w7 _ ∧ _›)).mono ?_; rintro e w11 ⟨rfl, hE11⟩))
    have hE711 : Ext w7 w11 := And.left ‹Ext w7 w11 ∧ _›
    have hP11 := hP7.trans hE711
    replace c0 := hE711.cell c0
    replace c1 := hE711.cell c1
    by_cases hc0 : V.2 = 0
    · have hc0' : (V.2 == 0) = true := by rw [hc0]; rfl
      have hc1 : (V.2 == 1) = false := by rw [hc0]; rfl
      have hc5 : (V.2 == 5) = false := by rw [hc0]; rfl
      have hcn : V.2 ≠ 1 := by omega
      have hpt := HIp.out hc0
      have HPt := Lib.hid hpt
      clear hc0 hpt
      go_wp2_with fail
      refine (HPt.out ax kx _ hP11 (HX7.out.mono hE711)).mono ?_
      rintro e w12 ⟨rfl, hE12⟩
      replace c0 := hE12.cell c0
      replace c1 := hE12.cell c1
      go_wp2_with fail
      refine (HCm.out _ (hP11.trans hE12)).mono ?_
      rintro e w13 ⟨rfl, hE13⟩
      replace c0 := hE13.cell c0
      replace c1 := hE13.cell c1
      obtain ⟨W13, P13, hW13, hP13, ⟨q0, q1, p0, p1⟩, ⟨d0, d1, -, -⟩, hB13⟩ := box_named w13 (.int .i64 T.1.1) (.int .i64 T.1.2) 55
      replace c0 := hB13.cell c0
      replace c1 := hB13.cell c1
      have hEall := hE1P.trans (hP11.trans (hE12.trans (hE13.trans hB13)))
      clear hB13
      by_cases ht0 : T.2 = 0
      · have ht0' : (T.2 != 0) = false := by rw [ht0]; rfl
        obtain ⟨g1, g2⟩ := HCd.out ht0 hcn
        have g1' : (C.2 == 0) = true := by rw [g1]; rfl
        rw [hc5] at g2
        have g2' : ¬ 0 < C.1 := by simpa using g2.symm
        clear ht0 g1 g2 hcn
        go_wp2_with fail
        refine (HCc.out _).mono ?_
        rintro e w14 ⟨rfl, hE14⟩
        go_wp2
        go_ret
        exact ⟨by show Ending.returned (.bool (!decide (0 < C.1))) = _; rw [decide_eq_false (show ¬ 0 < C.1 by omega)]; rfl, hEall.trans hE14⟩
      · have ht0' : (T.2 != 0) = true := by simpa using ht0
        clear ht0 hcn
        go_wp2
        go_ret
        exact ⟨rfl, hEall⟩
    · have hc0' : (V.2 == 0) = false := by simpa using hc0
      clear hc0
      go_wp2_with fail
      refine (HCm.out _ hP11).mono ?_
      rintro e w13 ⟨rfl, hE13⟩
      replace c0 := hE13.cell c0
      replace c1 := hE13.cell c1
      obtain ⟨W13, P13, hW13, hP13, ⟨q0, q1, p0, p1⟩, ⟨d0, d1, -, -⟩, hB13⟩ := box_named w13 (.int .i64 T.1.1) (.int .i64 T.1.2) 55
      replace c0 := hB13.cell c0
      replace c1 := hB13.cell c1
      have hEall := hE1P.trans (hP11.trans (hE13.trans hB13))
      clear hB13
      by_cases ht0 : T.2 = 0
      · have ht0' : (T.2 != 0) = false := by rw [ht0]; rfl
        by_cases hc1 : V.2 = 1
        · have hc1' : (V.2 == 1) = true := by rw [hc1]; rfl
          clear ht0 hc1
          go_wp2
          go_ret
          exact ⟨rfl, hEall⟩
        · have hc1' : (V.2 == 1) = false := by simpa using hc1
          obtain ⟨g1, g2⟩ := HCd.out ht0 hc1
          have g1' : (C.2 == 0) = true := by rw [g1]; rfl
          clear ht0 hc1 g1
          by_cases h5 : 0 < C.1
          · have h5' : (V.2 == 5) = true := by rw [g2]; simpa using h5
            clear g2
            go_wp2_with fail
            refine (HCc.out _).mono ?_
            rintro e w14 ⟨rfl, hE14⟩
            go_wp2
            go_ret
            exact ⟨rfl, hEall.trans hE14⟩
          · have h5' : (V.2 == 5) = false := by rw [g2]; simpa using h5
            clear g2
            go_wp2_with fail
            refine (HCc.out _).mono ?_
            rintro e w14 ⟨rfl, hE14⟩
            go_wp2
            go_ret
            exact ⟨by show Ending.returned (.bool (!decide (0 < C.1))) = _; rw [decide_eq_false (show ¬ 0 < C.1 by omega)]; rfl, hEall.trans hE14⟩
      · have ht0' : (T.2 != 0) = true := by simpa using ht0
        clear ht0
        go_wp2
        go_ret
        exact ⟨rfl, hEall⟩
  · go_wp2
    go_ret
    exact ⟨rfl, Ext.refl _⟩
end Go.Proofs.Ytokhkpbebimohaa
