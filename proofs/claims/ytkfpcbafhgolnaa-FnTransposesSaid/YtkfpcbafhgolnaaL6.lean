/- The walk of FnTransposes. Condition: the code reads. -/
import Derived.Test.YtkfpcbafhgolnaaD4
import Derived.Test.YtkfpcbafhgolnaaE3
import Derived.Test.YtkfpcbafhgolnaaE2
namespace Go.Proofs.Ytkfpcbafhgolnaa
set_option linter.unusedVariables false
set_option linter.unusedSimpArgs false
open Go.RowKit

theorem times_comm' (a b : Int) : times a b = times b a := by unfold times; split <;> split <;> omega
/-- a matrix turned, and turned back -/
def turnM (x : List (List Int)) : List (List Int) := mkMat (row x 0).length x.length fun i j => ent x j i
theorem turn_facts {a : List (List Int)} (h : isMat a = true) :
    transV a = (turnM a, 0) ∧ transV (turnM a) = (a, 0) ∧ isMat (turnM a) = true ∧ mulV a (turnM a) = chkM (mkMat a.length a.length (mulE (row a 0).length a (turnM a))) ∧
      (allM (mkMat a.length a.length (mulE (row a 0).length a (turnM a))) = true → transV (mkMat a.length a.length (mulE (row a 0).length a (turnM a))) = (mkMat a.length a.length (mulE (row a 0).length a (turnM a)), 0)) := by
  obtain ⟨hr, h1, h2, h3, h4⟩ := isMat_rect h
  have hT : isMat (turnM a) = true := by
    unfold turnM
    rw [isMat_mk _ h3 h4 h1 h2]
    unfold allM
    rw [all_iff_row]; intro i hi
    rw [mkMat_len] at hi
    rw [mkMat_row hi, allV_iff]; intro j hj
    rw [mkRow_len] at hj
    rw [mkRow_nth hj]
    exact isMat_val h hj hi
  have hl : (turnM a).length = (row a 0).length := mkMat_len _ _ _
  have hrw : (row (turnM a) 0).length = a.length := (rect_mk _ _ _).2 0 (by omega)
  have e1 : transV a = (turnM a, 0) := by unfold transV; rw [h]; rfl
  have e2 : transV (turnM a) = (a, 0) := by
    unfold transV; rw [hT, if_pos rfl, hl, hrw]
    congr 1
    exact (rect_eq_mk hr fun i j hi hj => by
      show ent a i j = ent (turnM a) j i
      exact (show ent (mkMat (row a 0).length a.length fun i j => ent a j i) j i = ent a i j from mkMat_ent hj hi).symm).symm
  have e3 : mulV a (turnM a) = chkM (mkMat a.length a.length (mulE (row a 0).length a (turnM a))) := by
    unfold mulV; rw [h, hT, if_pos (by rfl), if_pos hl.symm, hrw, hl]
  refine ⟨e1, e2, hT, e3, fun hp => ?_⟩
  have hP : isMat (mkMat a.length a.length (mulE (row a 0).length a (turnM a))) = true := by rw [isMat_mk _ h1 h2 h1 h2]; exact hp
  have hrp : (row (mkMat a.length a.length (mulE (row a 0).length a (turnM a))) 0).length = a.length := (rect_mk _ _ _).2 0 (by omega)
  unfold transV
  rw [hP, if_pos rfl, hrp, mkMat_len]
  congr 1
  refine mkMat_congr fun i j hi hj => ?_
  rw [mkMat_ent hj hi]
  unfold mulE
  refine mx_congr fun k hk => ?_
  have a1 : ent (turnM a) k i = ent a i k := mkMat_ent hk hi
  have a2 : ent (turnM a) k j = ent a j k := mkMat_ent hk hj
  rw [a1, a2, times_comm']

set_option maxRecDepth 100000 in
set_option maxHeartbeats 2000000 in
theorem FnTransposes_walk (ca : Option Addr) (cc : Nat) (bs : List Int) (w : World) (h : CodeAt w ca bs) :
    Calls Try.prog 9 #[.slice ca bs.length cc] w fun e w' => e = .returned (.bool true) ∧ Ext w w' := by
  go_enter Try.func9, Try.ntmps9
  go_wp2_with fail
  refine (big_c _ _ _ _ (by have := h.1; omega)).mono ?_
  rintro e w' ⟨t, rfl, rfl⟩
  cases t
  · go_wp2_with fail
    refine (DrawTransposeMatrix_c _ _ _ _ h).mono ?_
    rintro e w1 ⟨aa, ka, a, rfl, hO, hl, hr, hE1⟩
    have HA := Lib.hid hO.mat
    clear hO
    cases hm : isMat a
    · have e1 : transV a = ([], 1) := by simp [transV, hm]
      have hi := implTrans_c aa ka a w1 HA.out
      rw [e1] at hi
      have hs := fun w' (q : Ext w1 w') => specTrans_c aa ka a w' (HA.out.mono q)
      rw [e1] at hs
      have HI := Lib.hid hi
      have HS := Lib.hid hs
      clear hi hs e1 hm
      go_wp2_with fail
      refine HI.out.mono ?_
      rintro e w2 ⟨at', kt, rfl, hOt, hE2⟩
      go_wp2_with fail
      refine (HS.out _ hE2).mono ?_
      rintro e w3 ⟨am, km, rfl, hOm, hE3⟩
      have HT := Lib.hid (hOt.ext hE3).mat
      have HM := Lib.hid hOm.mat
      have hE := (hE1.trans hE2).trans hE3
      clear hOt hOm
      go_wp2_with fail
      refine (asB (c := true) (by simp) (likeTables_c at' am kt km ([] : List (List Int)) [] _ HT.out HM.out)).mono ?_
      rintro e w4 ⟨rfl, hq4⟩
      go_wp2
      go_ret
      exact ⟨rfl, hE.qt hq4⟩
    · obtain ⟨f1, f2, f3, f4, f5⟩ := turn_facts hm
      have hi := implTrans_c aa ka a w1 HA.out
      rw [f1] at hi
      have hs := fun w' (q : Ext w1 w') => specTrans_c aa ka a w' (HA.out.mono q)
      rw [f1] at hs
      have hb := fun (at' : Option Addr) (kt : Nat) w' (q : MatAt w' at' (turnM a)) => implTrans_c at' kt (turnM a) w' q
      rw [f2] at hb
      have hp := fun (at' : Option Addr) (kt : Nat) w' (q : Ext w1 w') (q' : MatAt w' at' (turnM a)) => implMul_c aa at' ka kt a (turnM a) w' (HA.out.mono q) q'
      rw [f4] at hp
      generalize hP : mkMat a.length a.length (mulE (row a 0).length a (turnM a)) = P at *
      generalize turnM a = T at *
      have HI := Lib.hid hi
      have HS := Lib.hid hs
      have HB := Lib.hid hb
      clear hi hs hb f1 f2 f3 f4 hm hP
      go_wp2_with fail
      refine HI.out.mono ?_
      rintro e w2 ⟨at', kt, rfl, hOt, hE2⟩
      go_wp2_with fail
      refine (HS.out _ hE2).mono ?_
      rintro e w3 ⟨am, km, rfl, hOm, hE3⟩
      have HT := Lib.hid (hOt.ext hE3).mat
      have HM := Lib.hid hOm.mat
      have hEw := hE2.trans hE3
      clear hOt hOm
      go_wp2_with fail
      refine (asB (c := true) (by simp) (likeTables_c at' am kt km T T _ HT.out HM.out)).mono ?_
      rintro e w4 ⟨rfl, hq4⟩
      replace hEw := hEw.qt hq4
      go_wp2_with fail
      refine (HB.out _ _ _ (HT.out.qt hq4)).mono ?_
      rintro e w5 ⟨ab, kb, rfl, hOb, hE5⟩
      have HT5 := Lib.hid ((HT.out.qt hq4).mono hE5)
      have hEw5 := hEw.trans hE5
      cases h4 : allM P
      · have hck : chkM P = ([], 3) := by unfold chkM; rw [h4]; rfl
        rw [hck] at hp
        have HP := Lib.hid hp
        clear hp hck f5 h4
        go_wp2_with fail
        refine (HP.out _ _ _ hEw5 HT5.out).mono ?_
        rintro e w6 ⟨ap, kp, rfl, hOp, hE6⟩
        have ht0 : transV [] = ([], 1) := rfl
        have hq := implTrans_c ap kp [] w6 hOp.mat
        rw [ht0] at hq
        have HQ := Lib.hid hq
        have HB6 := Lib.hid (hOb.ext hE6).mat
        clear hq ht0 hOb hOp
        go_wp2_with fail
        refine HQ.out.mono ?_
        rintro e w7 ⟨aq, kq, rfl, hOq, hE7⟩
        have hE67 := hEw5.trans (hE6.trans hE7)
        clear hOq
        go_wp2_with fail
        refine (asB (c := true) (by simp) (likeTables_c ab aa kb ka a a _ (HB6.out.mono hE7) (HA.out.mono hE67))).mono ?_
        rintro e w8 ⟨rfl, hq8⟩
        go_wp2
        go_ret
        exact ⟨rfl, (hE1.trans hE67).qt hq8⟩
      · have hck : chkM P = (P, 0) := by unfold chkM; rw [h4]; rfl
        rw [hck] at hp
        have HP := Lib.hid hp
        have F5 := Lib.hid (f5 h4)
        clear hp hck f5 h4
        go_wp2_with fail
        refine (HP.out _ _ _ hEw5 HT5.out).mono ?_
        rintro e w6 ⟨ap, kp, rfl, hOp, hE6⟩
        have hq := implTrans_c ap kp P w6 hOp.mat
        rw [F5.out] at hq
        have HQ := Lib.hid hq
        have HB6 := Lib.hid (hOb.ext hE6).mat
        have HP6 := Lib.hid hOp.mat
        clear hq hOb hOp
        go_wp2_with fail
        refine HQ.out.mono ?_
        rintro e w7 ⟨aq, kq, rfl, hOq, hE7⟩
        have hE67 := hEw5.trans (hE6.trans hE7)
        have HQ7 := Lib.hid hOq.mat
        clear hOq
        go_wp2_with fail
        refine (asB (c := true) (by simp) (likeTables_c ab aa kb ka a a _ (HB6.out.mono hE7) (HA.out.mono hE67))).mono ?_
        rintro e w8 ⟨rfl, hq8⟩
        go_wp2_with fail
        refine (asB (c := true) (by simp) (likeTables_c aq ap kq kp P P _ (HQ7.out.qt hq8) ((HP6.out.mono hE7).qt hq8))).mono ?_
        rintro e w9 ⟨rfl, hq9⟩
        go_wp2
        go_ret
        exact ⟨rfl, (hE1.trans hE67).qt (hq8.trans hq9)⟩
  · go_wp2
    go_ret
    exact ⟨rfl, Ext.refl _⟩
end Go.Proofs.Ytkfpcbafhgolnaa
