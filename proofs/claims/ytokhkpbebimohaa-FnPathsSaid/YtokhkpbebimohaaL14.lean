/- The walk of FnPaths. Condition: the code reads. -/
import Derived.Test.YtokhkpbebimohaaD17
import Derived.Test.YtokhkpbebimohaaK18
import Derived.Test.YtokhkpbebimohaaE26
import Derived.Test.YtokhkpbebimohaaE7
import Derived.Test.YtokhkpbebimohaaGO
namespace Go.Proofs.Ytokhkpbebimohaa
set_option linter.unusedVariables false
set_option linter.unusedSimpArgs false
open Go.RowKit
set_option maxRecDepth 100000 in
set_option maxHeartbeats 4000000 in
theorem FnPaths_walk (ca : Option Addr) (cc : Nat) (bs : List Int) (w : World) (h : CodeAt w ca bs) :
    Calls Try.prog 6 #[.slice ca bs.length cc] w fun e w' => e = .returned (.bool true) ∧ Ext w w' := by
  have HCode := Lib.hid h
  go_enter Try.func6, Try.ntmps6
  go_wp2_with fail
  refine (big_c _ _ _ _ (by have := h.1; omega)).mono ?_
  rintro e w' ⟨t, rfl, rfl⟩
  cases t
  · go_wp2_with fail
    refine (DrawHeaviestPath_c _ _ _ _ h).mono ?_
    rintro e w1 ⟨aa, ka, M, x, y, rfl, hOa, hla, -, -, -, hE1⟩
    have HA := Lib.hid hOa.mat
    clear hOa h
    have h1 := fun w' (q : Ext w1 w') => implHp_c aa ka M x y w' (HA.out.mono q)
    have h2 := fun w' (q : Ext w1 w') => specHp_c aa ka M x y w' (HA.out.mono q)
    have h3 := fun w' (q : Ext w1 w') => implStar_c aa ka M w' (HA.out.mono q)
    have h4 := fun (ax : Option Addr) (kx : Nat) w' (q : Ext w1 w') (hc : IntsAt w' ax (hpV M x y).1) => implPath_c aa ax ka kx M (hpV M x y).1 w' (HA.out.mono q) hc
    have h5 := fun h => hp_facts (x := M) (f := x) (t := y) h
    generalize pathV M (hpV M x y).1 = Q at *
    generalize hpV M x y = V at *
    generalize starV M = Z at *
    have H1 := Lib.hid h1
    have H2 := Lib.hid h2
    have H3 := Lib.hid h3
    have H4 := Lib.hid h4
    have H5 := Lib.hid h5
    clear h1 h2 h3 h4 h5
    go_wp2_with fail
    refine (H1.out _ (Ext.refl _)).mono ?_
    rintro e w2 ⟨ax, kx, rfl, hOx, hE2⟩
    go_wp2_with fail
    refine (H2.out _ hE2).mono ?_
    rintro e w3 ⟨as', ks, rfl, hOs, hE3⟩
    have HX := Lib.hid (hOx.ext hE3).ints
    have HS := Lib.hid hOs.ints
    have hX3 := hE2.trans hE3
    clear hOx hOs
    go_wp2_with fail
    refine (DrawPathWeight_c _ _ _ _ (HCode.out.mono (hE1.trans hX3))).mono ?_
    rintro e w4 ⟨ab, kb, N, av, kv, ys, rfl, hOb, hlb, hOv, hlv, hE4⟩
    have HN := Lib.hid hOb.mat
    have HV := Lib.hid hOv.ints
    have hX4 := hX3.trans hE4
    have HX4 := Lib.hid (HX.out.mono hE4)
    have HS4 := Lib.hid (HS.out.mono hE4)
    have g1 := fun w' (q : Ext w4 w') => implPath_c ab av kb kv N ys w' (HN.out.mono q) (HV.out.mono q)
    have g2 := fun w' (q : Ext w4 w') => specPath_c ab av kb kv N ys w' (HN.out.mono q) (HV.out.mono q)
    have g3 := fun w' (q : Ext w4 w') => implStar_c ab kb N w' (HN.out.mono q)
    have g4 := fun h => path_facts (x := N) (ys := ys) h
    generalize pathV N ys = P at *
    generalize starV N = Y at *
    have G1 := Lib.hid g1
    have G2 := Lib.hid g2
    have G3 := Lib.hid g3
    have G4 := Lib.hid g4
    clear g1 g2 g3 g4 hOb hOv
    go_wp2_with fail
    refine (G1.out _ (Ext.refl _)).mono ?_
    rintro e w5 ⟨rfl, hE5⟩
    go_wp2_with fail
    refine (G2.out _ hE5).mono ?_
    rintro e w6 ⟨rfl, hE6⟩
    have hE46 := hE5.trans hE6
    go_wp2_with fail
    refine (asB (c := true) (by simp) (likeInts_c ax as' kx ks V.1 V.1 _ (HX4.out.mono hE46) (HS4.out.mono hE46))).mono ?_
    rintro e w7 ⟨rfl, hq7⟩
    have hE47 := hE46.qt hq7
    have hcase : P.2 ≠ 0 ∨ (P.2 = 0 ∧ Y.2 ≠ 0) ∨ (P.2 = 0 ∧ Y.2 = 0) := by
      by_cases e : P.2 = 0
      · by_cases e2 : Y.2 = 0
        · exact .inr (.inr ⟨e, e2⟩)
        · exact .inr (.inl ⟨e, e2⟩)
      · exact .inl e
    rcases hcase with c1 | ⟨c1, c2⟩ | ⟨c1, c2⟩
    case' inl =>
      have c1' : (P.2 == 0) = false := by simpa using c1
      have hEy := hE47
      have hEx := hX4.trans hE47
      clear c1 hE47
    case' inr.inl =>
      have c1' : (P.2 == 0) = true := by rw [c1]; rfl
      have c2' : (Y.2 == 0) = false := by simpa using c2
      clear c1 c2
      go_wp2_with fail
      refine (G3.out _ hE47).mono ?_
      rintro e w8 ⟨a8, k8, rfl, -, hE8⟩
      go_wp2_with fail
      go_big_quiet (fail)
      have hEy := (hE47.trans hE8).drewN nq
      have hEx := hX4.trans hEy
      clear hE47
    case' inr.inr =>
      obtain ⟨p1, p2, p3, p4⟩ := G4.out c1
      obtain ⟨p5, p6⟩ := p4 c2
      have c1' : (P.2 == 0) = true := by rw [c1]; rfl
      have c2' : (Y.2 == 0) = true := by rw [c2]; rfl
      clear p4 c1 c2
      have g3 := G3.out _ hE47
      rw [p5] at g3
      have Hg3 := Lib.hid g3
      clear g3
      go_wp2_with fail
      refine Hg3.out.mono ?_
      rintro e w8 ⟨a8, k8, rfl, hO8, hE8⟩
      have hE48 := hE47.trans hE8
      have hEx := hX4.trans hE48
      rw [starM_len]
      rw [starM_len] at hO8
      have hm := hO8.mat
      obtain ⟨pb, ob, rfl⟩ := hm.base (by rw [starM_len]; omega)
      have q1 := p3 (ys.length - 1) (by omega)
      have q0 := p3 0 (by omega)
      obtain ⟨pv, ov, hpv, hv⟩ := (HV.out.mono hE48).at (i := 0) (by omega)
      have v1 := hv (ys.length - 1) (by omega)
      have v0 := hv 0 (by omega)
      subst hpv
      obtain ⟨l, hl⟩ := Int.eq_ofNat_of_zero_le q1.1
      obtain ⟨i0, hi0⟩ := Int.eq_ofNat_of_zero_le q0.1
      rw [hl] at v1 q1 p6
      rw [hi0] at v0 q0 p6
      simp only [Int.toNat_natCast] at p6
      rw [Nat.add_zero] at v0
      obtain ⟨qb, rb, cb, s1, ss, -⟩ := hm.hdr (starM_rect N N.length) (show l < N.length by omega) (by omega)
      have s2 := ss i0 (by omega)
      generalize ent (starM N N.length) l i0 = sv at *
      have hgt : decide (sv < P.1) = false := decide_eq_false (by omega)
      have y1 : (0 : Int) ≤ (l : Int) := by omega
      have y2 : (l : Int) < (N.length : Int) := q1.2
      have y3 : (0 : Int) ≤ (i0 : Int) := by omega
      have y4 : (i0 : Int) < (N.length : Int) := q0.2
      have el : ((ys.length : Nat) : Int) - 1 = ((ys.length - 1 : Nat) : Int) := by omega
      have hyl : ys.length - 1 < ys.length := by omega
      have hy0 : (0 : Int) < (ys.length : Int) := by omega
      have wl : IntKind.i64.wrap ((ys.length - 1 : Nat) : Int) = ((ys.length - 1 : Nat) : Int) := IntWalk.i64_in _ (by omega)
      clear p3 p5 p6 hm ss hO8 hv hl hi0 q1 q0 hE47
      go_wp2_with fail
      go_big_quiet (fail)
      replace hEx := hEx.drewN nq
      have hEy := hE48.drewN nq
      clear v0 v1 s1 s2 hgt
    all_goals
      by_cases hc0 : V.2 = 0
      · have hc0' : (V.2 != 0) = false := by rw [hc0]; rfl
        obtain ⟨fn, u, hfe, hte, f3, f4, f5, f6, f7, f8, f9, f10⟩ := H5.out hc0
        clear hc0 H5
        have h3 := H3.out _ hEx
        rcases f10 with f10 | ⟨f10, f11⟩
        · have f10' : (Z.2 == 3) = true := by rw [f10]; rfl
          have Hh3 := Lib.hid h3
          clear h3 f10 f8 f9 hfe hte
          go_wp2_with fail
          refine Hh3.out.mono ?_
          rintro e w9 ⟨a9, k9, rfl, -, hE9⟩
          have hE19 := hEx.trans hE9
          go_wp2_with fail
          refine (H4.out _ _ _ hE19 (HX4.out.mono (hEy.trans hE9))).mono ?_
          rintro e w10 ⟨rfl, hE10⟩
          go_wp2
          go_ret
          exact ⟨rfl, hE1.trans (hE19.trans hE10)⟩
        · have f10' : (Z.2 == 3) = false := by rw [f10]; rfl
          have f10'' : (Z.2 == 0) = true := by rw [f10]; rfl
          have f11' : (Q.2 == 0) = true := by rw [f11]; rfl
          have f11'' : (Q.1 == ent (starM M M.length) u fn) = true := by rw [f11]; simp
          have f12 : Z.1 = starM M M.length := by rw [f10]
          rw [f12] at h3
          have Hh3 := Lib.hid h3
          clear h3 f10 f11 f12
          go_wp2_with fail
          refine Hh3.out.mono ?_
          rintro e w9 ⟨a9, k9, rfl, hO9, hE9⟩
          rw [starM_len]
          rw [starM_len] at hO9
          have hE19 := hEx.trans hE9
          have hE49 := hEy.trans hE9
          have Hm9 := Lib.hid hO9.mat
          clear hO9
          go_wp2_with fail
          refine (H4.out _ _ _ hE19 (HX4.out.mono hE49)).mono ?_
          rintro e w10 ⟨rfl, hE10⟩
          have hm := Hm9.out.mono hE10
          obtain ⟨pb, ob, rfl⟩ := hm.base (by rw [starM_len]; omega)
          obtain ⟨qb, rb, cb, s1, ss, -⟩ := hm.hdr (starM_rect M M.length) f4 (by omega)
          have s2 := ss fn f3
          obtain ⟨pv, ov, hpv, hv⟩ := (HX4.out.mono (hE49.trans hE10)).at (i := 0) (by omega)
          have v1 := hv (V.1.length - 1) (by omega)
          have v0 := hv 0 (by omega)
          subst hpv
          rw [f8, Nat.add_zero] at v0
          rw [f9] at v1
          subst hfe
          subst hte
          generalize ent (starM M M.length) u fn = sv at *
          have y1 : (0 : Int) ≤ (u : Int) := by omega
          have y2 : (u : Int) < (M.length : Int) := by omega
          have y3 : (0 : Int) ≤ (fn : Int) := by omega
          have y4 : (fn : Int) < (M.length : Int) := by omega
          have el9 : ((V.1.length : Nat) : Int) - 1 = ((V.1.length - 1 : Nat) : Int) := by omega
          have hyl9 : V.1.length - 1 < V.1.length := by omega
          have hy09 : (0 : Int) < (V.1.length : Int) := by omega
          have hvl9 := HX4.out.len
          have wl9 : IntKind.i64.wrap ((V.1.length - 1 : Nat) : Int) = ((V.1.length - 1 : Nat) : Int) := IntWalk.i64_in _ (by omega)
          have hEe := hE1.trans (hE19.trans hE10)
          clear hm ss hv f8 f9
          go_wp2
          go_ret
          exact ⟨rfl, hEe⟩
      · have hc0' : (V.2 != 0) = true := by simpa using hc0
        clear hc0
        go_wp2
        go_ret
        exact ⟨rfl, hE1.trans hEx⟩
  · go_wp2
    go_ret
    exact ⟨rfl, Ext.refl _⟩
end Go.Proofs.Ytokhkpbebimohaa
