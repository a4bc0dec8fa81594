/- The walk of FnMeans. Condition: the code reads. -/
import Derived.Test.YtokhkpbebimohaaD16
import Derived.Test.YtokhkpbebimohaaK16
import Derived.Test.YtokhkpbebimohaaL12
import Derived.Test.YtokhkpbebimohaaE10
import Derived.Test.YtokhkpbebimohaaE12
namespace Go.Proofs.Ytokhkpbebimohaa
set_option linter.unusedVariables false
set_option linter.unusedSimpArgs false
open Go.RowKit
set_option maxRecDepth 100000 in
set_option maxHeartbeats 4000000 in
theorem FnMeans_walk (ca : Option Addr) (cc : Nat) (bs : List Int) (w : World) (h : CodeAt w ca bs) :
    Calls Try.prog 7 #[.slice ca bs.length cc] w fun e w' => e = .returned (.bool true) ∧ Ext w w' := by
  have HCode := Lib.hid h
  go_enter Try.func7, Try.ntmps7
  go_wp2_with fail
  refine (big_c _ _ _ _ (by have := h.1; omega)).mono ?_
  rintro e w' ⟨t, rfl, rfl⟩
  cases t
  · go_wp2_with fail
    refine (DrawCycleMean_c _ _ _ _ h).mono ?_
    rintro e w1 ⟨aa, ka, M, rfl, hOa, hla, -, hE1⟩
    have HA := Lib.hid hOa.mat
    clear hOa h
    have h1 := fun w' (q : Ext w1 w') => implCycMean_c aa ka M w' (HA.out.mono q)
    have h2 := fun w' (q : Ext w1 w') => specCyc_c aa ka M w' (HA.out.mono q)
    have h3 := fun w' (q : Ext w1 w') => implTab_c aa ka M w' (HA.out.mono q)
    have h4 := fun w' (q : Ext w1 w') => specTab_c aa ka M w' (HA.out.mono q)
    generalize tabV M = T at *
    obtain ⟨⟨T1, T2⟩, T3⟩ := T
    simp only at h1 h2 h3 h4
    have H1 := Lib.hid h1
    have H2 := Lib.hid h2
    have H3 := Lib.hid h3
    have H4 := Lib.hid h4
    clear h1 h2 h3 h4
    go_wp2_with fail
    refine (H1.out _ (Ext.refl _)).mono ?_
    rintro _ w2 ⟨rfl, hE2⟩
    obtain ⟨Wc, Pc, hWc, hPc, ⟨qc0, qc1, pc0, pc1⟩, ⟨c0, c1, -, -⟩, hBc⟩ := box_named w2 (.int .i64 T1) (.int .i64 T2) 55
    have hXc := hE2.trans hBc
    clear hE2 hBc
    go_wp2_with fail
    refine (H2.out _ hXc).mono ?_
    rintro _ w3 ⟨rfl, hE3⟩
    replace c0 := hE3.cell c0
    replace c1 := hE3.cell c1
    obtain ⟨Wd, Pd, hWd, hPd, ⟨qd0, qd1, pd0, pd1⟩, ⟨d0, d1, -, -⟩, hBd⟩ := box_named w3 (.int .i64 T1) (.int .i64 T2) 55
    replace c0 := hBd.cell c0
    replace c1 := hBd.cell c1
    have hXd := (hXc.trans hE3).trans hBd
    clear hE3 hBd hXc
    go_wp2_with fail
    refine (H3.out _ hXd).mono ?_
    rintro _ w4 ⟨rfl, hE4⟩
    replace c0 := hE4.cell c0
    replace c1 := hE4.cell c1
    replace d0 := hE4.cell d0
    replace d1 := hE4.cell d1
    obtain ⟨We, Pe, hWe, hPe, ⟨qe0, qe1, pe0, pe1⟩, ⟨e0, e1, -, -⟩, hBe⟩ := box_named w4 (.int .i64 T1) (.int .i64 T2) 55
    replace c0 := hBe.cell c0
    replace c1 := hBe.cell c1
    replace d0 := hBe.cell d0
    replace d1 := hBe.cell d1
    have hXe := (hXd.trans hE4).trans hBe
    clear hE4 hBe hXd
    go_wp2_with fail
    refine (H4.out _ hXe).mono ?_
    rintro _ w5 ⟨rfl, hE5⟩
    replace c0 := hE5.cell c0
    replace c1 := hE5.cell c1
    replace d0 := hE5.cell d0
    replace d1 := hE5.cell d1
    replace e0 := hE5.cell e0
    replace e1 := hE5.cell e1
    obtain ⟨Wf, Pf, hWf, hPf, ⟨qf0, qf1, pf0, pf1⟩, ⟨f0, f1, -, -⟩, hBf⟩ := box_named w5 (.int .i64 T1) (.int .i64 T2) 55
    replace c0 := hBf.cell c0
    replace c1 := hBf.cell c1
    replace d0 := hBf.cell d0
    replace d1 := hBf.cell d1
    replace e0 := hBf.cell e0
    replace e1 := hBf.cell e1
    have hXf := (hXe.trans hE5).trans hBf
    clear hE5 hBf hXe
    go_wp2_with fail
    refine (DrawMeanOf_c _ _ _ _ (HCode.out.mono (hE1.trans hXf))).mono ?_
    rintro _ w7 ⟨ab, kb, N, av, kv, ys, rfl, hOb, hlb, hOv, hly, hE7⟩
    replace c0 := hE7.cell c0
    replace c1 := hE7.cell c1
    replace d0 := hE7.cell d0
    replace d1 := hE7.cell d1
    replace e0 := hE7.cell e0
    replace e1 := hE7.cell e1
    replace f0 := hE7.cell f0
    replace f1 := hE7.cell f1
    have hX7 := hXf.trans hE7
    have HN := Lib.hid hOb.mat
    have HV := Lib.hid hOv
    have g1 := fun w' (q : Ext w7 w') => implMean_c ab av kb kv N ys w' (HN.out.mono q) (HV.out.ext q) (by omega)
    have g2 := fun w' (q : Ext w7 w') => specMean_c ab av kb kv N ys w' (HN.out.mono q) (HV.out.ext q) (by omega)
    have g3 := fun w' (q : Ext w7 w') => implCycMean_c ab kb N w' (HN.out.mono q)
    have g4 : ∀ w', Calls Try.prog 50 #[.agg #[.int .i64 ((meanV N ys).1).1, .int .i64 ((meanV N ys).1).2], .agg #[.int .i64 ((tabV N).1).1, .int .i64 ((tabV N).1).2]] w' fun e w'' => e = .returned (.tuple #[.int .i64 (cmpRV (meanV N ys).1 (tabV N).1).1, .int .i64 (cmpRV (meanV N ys).1 (tabV N).1).2]) ∧ Ext w' w'' := fun w' => cmpRatios_c _ _ _ _ w'
    have g5 := fun h => mean_facts (x := N) (xs := ys) h
    generalize cmpRV (meanV N ys).1 (tabV N).1 = C at *
    generalize meanV N ys = U at *
    generalize tabV N = V at *
    obtain ⟨⟨U1, U2⟩, U3⟩ := U
    obtain ⟨⟨V1, V2⟩, V3⟩ := V
    simp only at g1 g2 g3 g4 g5
    have G1 := Lib.hid g1
    have G2 := Lib.hid g2
    have G3 := Lib.hid g3
    have G4 := Lib.hid g4
    have G5 := Lib.hid g5
    clear g1 g2 g3 g4 g5 hXf hOb hOv
    go_wp2_with fail
    refine (G1.out _ (Ext.refl _)).mono ?_
    rintro _ w8 ⟨rfl, hE8⟩
    replace c0 := hE8.cell c0
    replace c1 := hE8.cell c1
    replace d0 := hE8.cell d0
    replace d1 := hE8.cell d1
    replace e0 := hE8.cell e0
    replace e1 := hE8.cell e1
    replace f0 := hE8.cell f0
    replace f1 := hE8.cell f1
    obtain ⟨Wm, Pm, hWm, hPm, ⟨qm0, qm1, pm0, pm1⟩, ⟨m0, m1, -, -⟩, hBm⟩ := box_named w8 (.int .i64 U1) (.int .i64 U2) 55
    replace c0 := hBm.cell c0
    replace c1 := hBm.cell c1
    replace d0 := hBm.cell d0
    replace d1 := hBm.cell d1
    replace e0 := hBm.cell e0
    replace e1 := hBm.cell e1
    replace f0 := hBm.cell f0
    replace f1 := hBm.cell f1
    have hXm := hE8.trans hBm
    clear hE8 hBm
    go_wp2_with fail
    refine (G2.out _ hXm).mono ?_
    rintro _ w9 ⟨rfl, hE9⟩
    replace c0 := hE9.cell c0
    replace c1 := hE9.cell c1
    replace d0 := hE9.cell d0
    replace d1 := hE9.cell d1
    replace e0 := hE9.cell e0
    replace e1 := hE9.cell e1
    replace f0 := hE9.cell f0
    replace f1 := hE9.cell f1
    replace m0 := hE9.cell m0
    replace m1 := hE9.cell m1
    obtain ⟨Wn, Pn, hWn, hPn, ⟨qn0, qn1, pn0, pn1⟩, ⟨n0, n1, -, -⟩, hBn⟩ := box_named w9 (.int .i64 U1) (.int .i64 U2) 55
    replace c0 := hBn.cell c0
    replace c1 := hBn.cell c1
    replace d0 := hBn.cell d0
    replace d1 := hBn.cell d1
    replace e0 := hBn.cell e0
    replace e1 := hBn.cell e1
    replace f0 := hBn.cell f0
    replace f1 := hBn.cell f1
    replace m0 := hBn.cell m0
    replace m1 := hBn.cell m1
    have hXn := (hXm.trans hE9).trans hBn
    clear hE9 hBn hXm
    by_cases hu : U3 = 0
    · have hu' : (U3 != 0) = false := by rw [hu]; rfl
      have hf := G5.out hu
      have HF := Lib.hid hf
      clear hu hf G5
      go_wp2_with fail
      refine (G3.out _ hXn).mono ?_
      rintro _ w10 ⟨rfl, hE10⟩
      replace m0 := hE10.cell m0
      replace m1 := hE10.cell m1
      obtain ⟨Ws, Ps, hWs, hPs, ⟨qs0, qs1, ps0, ps1⟩, ⟨s0, s1, -, -⟩, hBs⟩ := box_named w10 (.int .i64 V1) (.int .i64 V2) 55
      replace m0 := hBs.cell m0
      replace m1 := hBs.cell m1
      have hXs := (hXn.trans hE10).trans hBs
      clear hE10 hBs
      go_wp2_with fail
      refine (G4.out _).mono ?_
      rintro _ w11 ⟨rfl, hE11⟩
      have hXall := hE1.trans (hX7.trans (hXs.trans hE11))
      rcases HF.out with hf | ⟨f1, f2, f3⟩
      · have hf' : (V3 == 3) = true := by rw [hf]; rfl
        clear hf
        go_wp2
        go_ret
        exact ⟨rfl, hXall⟩
      · have f1' : (V3 == 3) = false := by rw [f1]; rfl
        have f1'' : (V3 == 0) = true := by rw [f1]; rfl
        have f2' : (C.2 == 0) = true := by rw [f2]; rfl
        clear f1 f2
        go_wp2
        go_ret
        exact ⟨rfl, hXall⟩
    · have hu' : (U3 != 0) = true := by simpa using hu
      clear hu
      go_wp2
      go_ret
      exact ⟨rfl, hE1.trans (hX7.trans hXn)⟩
  · go_wp2
    go_ret
    exact ⟨rfl, Ext.refl _⟩
end Go.Proofs.Ytokhkpbebimohaa
