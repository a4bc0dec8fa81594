/- Contracts of UpstreamMean, the program's and the reference's. No condition. -/
import Derived.Test.YtljchmkoafahgaaE15
import Derived.Test.YtljchmkoafahgaaRC
import Derived.Test.YtljchmkoafahgaaE6
namespace Go.Proofs.Ytljchmkoafahgaa
set_option linter.unusedVariables false
set_option linter.unusedSimpArgs false
open Go.RowKit

/-- the matrix of the nodes that reach a node -/
def upE (x : List (List Int)) (f i j : Nat) : Int := if wB x x.length i f && wB x x.length j f then ent x i j else -1000000000000000
def upM (x : List (List Int)) (f : Nat) : List (List Int) := mkMat x.length x.length (upE x f)
theorem upM_len (x : List (List Int)) (f : Nat) : (upM x f).length = x.length := mkMat_len _ _ _
theorem upM_sq {x : List (List Int)} (h : isSq x = true) (f : Nat) : isSq (upM x f) = true := by
  have hr := isSq_rect h
  have hv : isMat (upM x f) = true := by
    unfold upM
    rw [isMat_mk _ hr.2.1 hr.2.2 hr.2.1 hr.2.2]
    unfold allM
    rw [all_iff_row]; intro i hi
    rw [mkMat_len] at hi
    rw [mkMat_row hi, allV_iff]; intro j hj
    rw [mkRow_len] at hj
    rw [mkRow_nth hj]
    unfold upE
    split
    · exact isSq_val h hi hj
    · decide
  have h0 : (row (upM x f) 0).length = (upM x f).length := by
    rw [upM_len]; unfold upM; rw [mkMat_row (by omega), mkRow_len]
  unfold isSq; rw [hv, h0]; simp
def upV (x : List (List Int)) (f : Int) : (Int × Int) × Int := if isSq x then (if inR f 0 ((x.length : Int) - 1) then optT (bestO (upM x f.toNat) x.length) else ((0, 0), 2)) else ((0, 0), 1)

theorem upF_c (n f bb bs ba : Nat) (s a : Option Addr) (cs ca : Nat) (Rm : Nat → Nat → Bool) (x : List (List Int)) (i j : Nat) (w : World) (h1 : w.cell? ⟨bb, 0, none⟩ = some (.slice s n cs)) (h2 : w.cell? ⟨bs, 0, none⟩ = some (.int .i64 (f : Int))) (h3 : w.cell? ⟨ba, 0, none⟩ = some (.slice a n ca))
    (hr : BB.MatAt w s (BB.mkMat n n Rm)) (hx : MatAt w a x) (rx : Rect x n n) (hi : i < n) (hj : j < n) (hf : f < n) :
    Calls Try.prog 78 #[.int .i64 (i : Int), .int .i64 (j : Int), .pointer (some ⟨bb, 0, none⟩), .pointer (some ⟨bs, 0, none⟩), .pointer (some ⟨ba, 0, none⟩)] w fun e w' => e = .returned (.int .i64 (if Rm i f && Rm j f then ent x i j else -1000000000000000)) ∧ Qt w w' := by
  have lx := rx.1
  obtain ⟨p, o, rfl⟩ := hr.base (by rw [BB.mkMat_len]; omega)
  obtain ⟨p2, o2, rfl⟩ := hx.base (by omega)
  obtain ⟨q, r, c, d1, dd, -⟩ := hr.hdr (BB.rect_mk n n Rm) hi (by omega)
  have d2 := dd f hf
  obtain ⟨q', r', c', e1, ee, -⟩ := hr.hdr (BB.rect_mk n n Rm) hj (by omega)
  have e2 := ee f hf
  rw [BB.mkMat_ent hi hf] at d2
  rw [BB.mkMat_ent hj hf] at e2
  obtain ⟨q2, r2, c2, f1, ff, -⟩ := hx.hdr rx hi (by omega)
  have f2 := ff j hj
  have nl := hx.len
  rw [lx] at nl
  clear dd ee ff hr hx rx lx
  generalize ent x i j = z at *
  generalize Rm i f = u at *
  generalize Rm j f = v at *
  cases u
  · rw [show (if (false && v) = true then z else -1000000000000000) = (-1000000000000000 : Int) by simp]
    go_enter Try.func78, Try.ntmps78
    go_wp2_with fail
    go_big_quiet (fail)
    go_wp2
    go_ret
    exact ⟨rfl, (Qt.refl _).drewN _⟩
  cases v
  · rw [show (if (true && false) = true then z else -1000000000000000) = (-1000000000000000 : Int) by simp]
    go_enter Try.func78, Try.ntmps78
    go_wp2_with fail
    go_big_quiet (fail)
    go_wp2
    go_ret
    exact ⟨rfl, (Qt.refl _).drewN _⟩
  · rw [show (if (true && true) = true then z else -1000000000000000) = z by simp]
    go_enter Try.func78, Try.ntmps78
    go_wp2_with fail
    go_big_quiet (fail)
    go_wp2
    go_ret
    exact ⟨rfl, (Qt.refl _).drewN _⟩
theorem upF_enter (args : Array Value) (w : World) : Sem.run Try.prog (callFunc 78 args) w = .ok (.enter 78 args) w := by
  simp [callFunc, Try.func78, Try.f78]
set_option maxHeartbeats 1000000 in
theorem implUp_c (a : Option Addr) (ca : Nat) (x : List (List Int)) (f : Int) (w : World) (hx : MatAt w a x) :
    Calls Try.prog 26 #[.slice a x.length ca, .int .i64 f] w fun e w' => e = .returned (.tuple #[.agg #[.int .i64 ((upV x f).1).1, .int .i64 ((upV x f).1).2], .int .i64 (upV x f).2]) ∧ Ext w w' := by
  obtain ⟨W1, hW1⟩ : ∃ W, w.alloc (.cells #[.slice a x.length ca] 22) = W := ⟨_, rfl⟩
  have hE1 : Ext w W1 := by rw [← hW1]; exact (Ext.refl w).alloc _
  have hb1 : W1.cell? ⟨w.heap.size, 0, none⟩ = some (.slice a x.length ca) := by rw [← hW1]; simp
  obtain ⟨W2, hW2⟩ : ∃ W, W1.alloc (.cells #[.int .i64 f] 2) = W := ⟨_, rfl⟩
  have hE2 : Ext W1 W2 := by rw [← hW2]; exact (Ext.refl W1).alloc _
  have hb2 : W2.cell? ⟨W1.heap.size, 0, none⟩ = some (.int .i64 f) := by rw [← hW2]; simp
  obtain ⟨W, hW, HB, hs3, hE3⟩ := alloc2_facts W2 (.int .i64 0) (.int .i64 0) 25
  replace hb1 := hE3.cell (hE2.cell hb1)
  replace hb2 := hE3.cell hb2
  have hsz : w.heap.size ≤ W2.heap.size := (hE1.trans hE2).size
  have hE := (hE1.trans hE2).trans hE3
  have HX := Lib.hid hx
  have hxl := hx.len
  clear hx hE1 hE2 hE3
  cases hs : isSq x
  · have e : upV x f = ((0, 0), 1) := by simp [upV, hs]
    rw [e]; clear e
    go_enter Try.func26, Try.ntmps26
    go_wp2_with fail
    refine (asB hs (isSquare_c _ _ _ _ (HX.out.mono hE))).mono ?_
    rintro e w1 ⟨rfl, E1⟩
    obtain ⟨d0, d1, g0, g1⟩ := HB.ext E1
    have hEE := hE.trans E1
    go_wp2
    refine bodyPost_ret (v := .tuple #[.agg #[.int .i64 (0), .int .i64 (0)], .int .i64 (1)]) (by simp [results, Try.results26, go_sem, d0, d1]) rfl ⟨rfl, ?_⟩
    repeat (first | exact hEE | refine Ext.set ?_ hsz _)
  cases h1 : inR f 0 ((x.length : Int) - 1)
  · have e : upV x f = ((0, 0), 2) := by simp [upV, hs, h1]
    rw [e]; clear e
    have H1 := Lib.hid h1
    clear h1
    go_enter Try.func26, Try.ntmps26
    go_wp2_with fail
    refine (asB hs (isSquare_c _ _ _ _ (HX.out.mono hE))).mono ?_
    rintro e w1 ⟨rfl, E1⟩
    replace hb1 := E1.cell hb1
    replace hb2 := E1.cell hb2
    go_wp2_with fail
    refine (asB H1.out (isNode_c _ _ _ _ _ hxl)).mono ?_
    rintro e w2 ⟨rfl, rfl⟩
    obtain ⟨d0, d1, g0, g1⟩ := HB.ext E1
    have hEE := hE.trans E1
    go_wp2
    refine bodyPost_ret (v := .tuple #[.agg #[.int .i64 (0), .int .i64 (0)], .int .i64 (2)]) (by simp [results, Try.results26, go_sem, d0, d1]) rfl ⟨rfl, ?_⟩
    repeat (first | exact hEE | refine Ext.set ?_ hsz _)
  obtain ⟨u, rfl, hu, hut⟩ := node_nat h1
  have hsq := upM_sq hs u
  have hul := upM_len x u
  have HM := Lib.hid (fun (a : Option Addr) (ca : Nat) w' (h : MatAt w' a (upM x u)) (hb : bestO (upM x u) (upM x u).length = none) => cycleMean_none a ca (upM x u) w' h hsq hb)
  have HM2 := Lib.hid (fun (a : Option Addr) (ca : Nat) w' (h : MatAt w' a (upM x u)) (R : Int × Int) (hb : bestO (upM x u) (upM x u).length = some R) => cycleMean_some a ca (upM x u) w' h hsq hb)
  have HR := Lib.hid (fun w' (h : Ext w w') => reaching_c a ca x w' (HX.out.mono h) hs)
  have hl := isSq_rect hs
  have HL := Lib.hid hl
  have H1 := Lib.hid h1
  rw [hul] at HM HM2
  have ev : upV x u = optT (bestO (upM x u) x.length) := by simp [upV, hs, h1, hut]
  rw [ev]
  clear ev h1 hut hsq hl
  cases hw : bestO (upM x u) x.length with
  | none =>
    have HMn := Lib.hid (fun a ca w' h => HM.out a ca w' h hw)
    clear HM HM2 hw
    simp only [optT]
    go_enter Try.func26, Try.ntmps26
    go_wp2_with fail
    refine (asB hs (isSquare_c _ _ _ _ (HX.out.mono hE))).mono ?_
    rintro e w1 ⟨rfl, E1⟩
    replace hb1 := E1.cell hb1
    replace hb2 := E1.cell hb2
    go_wp2_with fail
    refine (asB H1.out (isNode_c _ _ _ _ _ hxl)).mono ?_
    rintro e w2 ⟨rfl, rfl⟩
    go_wp2_with fail
    refine (HR.out _ (hE.trans E1)).mono ?_
    rintro e w3 ⟨a3, c3, rfl, hO3, E3⟩
    rw [BB.mkMat_len]
    replace hb1 := E3.cell hb1
    replace hb2 := E3.cell hb2
    obtain ⟨W4, hW4, k0, k1, k2, hE4, hE5⟩ := box_putS w3 (.slice none 0 0) (.slice a3 x.length c3) 70
    replace hb1 := hE5.cell hb1
    replace hb2 := hE5.cell hb2
    have hMr := Lib.hid (hO3.mat.mono hE5)
    have hEf := ((hE.trans E1).trans E3).trans hE5
    clear hO3
    have H := Lib.hid (fun (W' : World) (hq : Ext ((W4.setCell ⟨w3.heap.size, 0, none⟩ (.slice a3 x.length c3))) W') => matrixBy_c 78 #[.pointer (some ⟨w3.heap.size, 0, none⟩), .pointer (some ⟨W1.heap.size, 0, none⟩), .pointer (some ⟨w.heap.size, 0, none⟩)] x.length x.length (upE x u) W' (by have := HL.out; omega) (by have := HL.out; omega) upF_enter
      (fun i j w' hi hj hE' => upF_c x.length u w3.heap.size W1.heap.size w.heap.size a3 a c3 ca (wB x x.length) x i j w' (hE'.cell (hq.cell k2)) (hE'.cell (hq.cell hb2)) (hE'.cell (hq.cell hb1)) ((hMr.out.mono hq).mono hE') (((HX.out.mono hEf).mono hq).mono hE') HL.out.1 hi hj hu))
    go_wp2_with fail
    refine (H.out _ (Ext.refl _)).mono ?_
    rintro e w6 ⟨a6, c6, rfl, hOu, E6⟩
    have hlu : (mkMat x.length x.length (upE x u)).length = x.length := mkMat_len _ _ _
    rw [hlu]
    rw [hlu] at hOu
    replace hOu : OwnM w6 _ (.slice a6 x.length c6) (upM x u) := hOu
    clear H
    go_wp2_with fail
    refine (HMn.out _ _ _ hOu.mat).mono ?_
    rintro e w7 ⟨rfl, E7⟩
    obtain ⟨W8, hW8, HC, HC2, hs8, hE8, hE9⟩ := box_putE w7 (.int .i64 0) (.int .i64 0) 25
    obtain ⟨q0, q1, p0, p1⟩ := HC
    have hEt := (((E1.trans E3).trans hE5).trans E6).trans (E7.trans hE9)
    obtain ⟨d0, d1, g0, g1⟩ := HB.ext hEt
    have hEE := hE.trans hEt
    clear HC2
    go_wp2
    refine bodyPost_ret (v := .tuple #[.agg #[.int .i64 (0), .int .i64 (0)], .int .i64 (4)]) (by simp [results, Try.results26, go_sem, d0, d1]) rfl ⟨rfl, ?_⟩
    repeat (first | exact hEE | refine Ext.set ?_ hsz _)
  | some R =>
    have HMn := Lib.hid (fun a ca w' h => HM2.out a ca w' h R hw)
    clear HM HM2 hw
    simp only [optT]
    go_enter Try.func26, Try.ntmps26
    go_wp2_with fail
    refine (asB hs (isSquare_c _ _ _ _ (HX.out.mono hE))).mono ?_
    rintro e w1 ⟨rfl, E1⟩
    replace hb1 := E1.cell hb1
    replace hb2 := E1.cell hb2
    go_wp2_with fail
    refine (asB H1.out (isNode_c _ _ _ _ _ hxl)).mono ?_
    rintro e w2 ⟨rfl, rfl⟩
    go_wp2_with fail
    refine (HR.out _ (hE.trans E1)).mono ?_
    rintro e w3 ⟨a3, c3, rfl, hO3, E3⟩
    rw [BB.mkMat_len]
    replace hb1 := E3.cell hb1
    replace hb2 := E3.cell hb2
    obtain ⟨W4, hW4, k0, k1, k2, hE4, hE5⟩ := box_putS w3 (.slice none 0 0) (.slice a3 x.length c3) 70
    replace hb1 := hE5.cell hb1
    replace hb2 := hE5.cell hb2
    have hMr := Lib.hid (hO3.mat.mono hE5)
    have hEf := ((hE.trans E1).trans E3).trans hE5
    clear hO3
    have H := Lib.hid (fun (W' : World) (hq : Ext ((W4.setCell ⟨w3.heap.size, 0, none⟩ (.slice a3 x.length c3))) W') => matrixBy_c 78 #[.pointer (some ⟨w3.heap.size, 0, none⟩), .pointer (some ⟨W1.heap.size, 0, none⟩), .pointer (some ⟨w.heap.size, 0, none⟩)] x.length x.length (upE x u) W' (by have := HL.out; omega) (by have := HL.out; omega) upF_enter
      (fun i j w' hi hj hE' => upF_c x.length u w3.heap.size W1.heap.size w.heap.size a3 a c3 ca (wB x x.length) x i j w' (hE'.cell (hq.cell k2)) (hE'.cell (hq.cell hb2)) (hE'.cell (hq.cell hb1)) ((hMr.out.mono hq).mono hE') (((HX.out.mono hEf).mono hq).mono hE') HL.out.1 hi hj hu))
    go_wp2_with fail
    refine (H.out _ (Ext.refl _)).mono ?_
    rintro e w6 ⟨a6, c6, rfl, hOu, E6⟩
    have hlu : (mkMat x.length x.length (upE x u)).length = x.length := mkMat_len _ _ _
    rw [hlu]
    rw [hlu] at hOu
    replace hOu : OwnM w6 _ (.slice a6 x.length c6) (upM x u) := hOu
    clear H
    go_wp2_with fail
    refine (HMn.out _ _ _ hOu.mat).mono ?_
    rintro e w7 ⟨rfl, E7⟩
    obtain ⟨W8, hW8, HC, HC2, hs8, hE8, hE9⟩ := box_putE w7 (.int .i64 R.1) (.int .i64 R.2) 25
    obtain ⟨q0, q1, p0, p1⟩ := HC
    have hne : w7.heap.size ≠ W2.heap.size := by have := E1.size; have := E3.size; have := hE5.size; have := E6.size; have := E7.size; omega
    go_wp2_with fail
    refine (checkedRatio_c R.1 R.2 _).mono ?_
    rintro e w9 ⟨rfl, E9⟩
    have hEt := ((((E1.trans E3).trans hE5).trans E6).trans (E7.trans hE9)).trans E9
    obtain ⟨d0, d1, g0, g1⟩ := HB.ext hEt
    have hEE := hE.trans hEt
    go_wp2
    refine bodyPost_ret (v := .tuple #[.agg #[.int .i64 ((chkR R).1.1), .int .i64 ((chkR R).1.2)], .int .i64 (chkR R).2]) (by simp [results, Try.results26, go_sem, d0, d1]) rfl ⟨rfl, ?_⟩
    repeat (first | exact hEE | refine Ext.set ?_ hsz _)
set_option maxHeartbeats 2000000 in
theorem specUp_c (a : Option Addr) (ca : Nat) (x : List (List Int)) (f : Int) (w : World) (hx : MatAt w a x) :
    Calls Try.prog 25 #[.slice a x.length ca, .int .i64 f] w fun e w' => e = .returned (.tuple #[.agg #[.int .i64 ((upV x f).1).1, .int .i64 ((upV x f).1).2], .int .i64 (upV x f).2]) ∧ Ext w w' := by
  obtain ⟨W, hW, HB, hs1, hE⟩ := alloc2_facts w (.int .i64 0) (.int .i64 0) 25
  have hE1' : Ext W W := Ext.refl W
  have HX := Lib.hid hx
  have hxl := hx.len
  clear hx
  cases hs : isSq x
  · have e : upV x f = ((0, 0), 1) := by simp [upV, hs]
    rw [e]; clear e
    go_enter Try.func25, Try.ntmps25
    go_wp2_with fail
    refine (asB hs (l02Square_c _ _ _ _ (HX.out.mono hE))).mono ?_
    rintro e w1 ⟨rfl, E1⟩
    replace E1 := E1.ext
    obtain ⟨d0, d1, g0, g1⟩ := HB.ext E1
    have hEE := hE.trans E1
    go_wp2
    refine bodyPost_ret (v := .tuple #[.agg #[.int .i64 (0), .int .i64 (0)], .int .i64 (1)]) (by simp [results, Try.results25, go_sem, d0, d1]) rfl ⟨rfl, ?_⟩
    repeat (first | exact hEE | refine Ext.set ?_ (Nat.le_refl _) _)
  cases h1 : inR f 0 ((x.length : Int) - 1)
  · have e : upV x f = ((0, 0), 2) := by simp [upV, hs, h1]
    rw [e]; clear e
    have H1 := Lib.hid h1
    clear h1
    go_enter Try.func25, Try.ntmps25
    go_wp2_with fail
    refine (asB hs (l02Square_c _ _ _ _ (HX.out.mono hE))).mono ?_
    rintro e w1 ⟨rfl, E1⟩
    replace E1 := E1.ext
    go_wp2_with fail
    refine (asB H1.out (l03Node_c _ _ _ _ _ hxl)).mono ?_
    rintro e w2 ⟨rfl, rfl⟩
    obtain ⟨d0, d1, g0, g1⟩ := HB.ext E1
    have hEE := hE.trans E1
    go_wp2
    refine bodyPost_ret (v := .tuple #[.agg #[.int .i64 (0), .int .i64 (0)], .int .i64 (2)]) (by simp [results, Try.results25, go_sem, d0, d1]) rfl ⟨rfl, ?_⟩
    repeat (first | exact hEE | refine Ext.set ?_ (Nat.le_refl _) _)
  obtain ⟨u, rfl, hu, hut⟩ := node_nat h1
  have hsq := upM_sq hs u
  have hul := upM_len x u
  have hcy := fun (a : Option Addr) (ca : Nat) w' (h : MatAt w' a (upM x u)) => specCyc_c a ca (upM x u) w' h
  have ev : upV x u = tabV (upM x u) := by simp [upV, hs, h1, hut, tabV, hsq, hul]
  rw [hul, ← ev] at hcy
  obtain ⟨V, hV⟩ : ∃ V, upV x u = V := ⟨_, rfl⟩
  rw [hV] at hcy ⊢
  have HCy := Lib.hid hcy
  have HR := Lib.hid (fun w' (h : Ext w w') => l05Reach_c a ca x w' (HX.out.mono h) hs)
  have hl := isSq_rect hs
  have HOw := Lib.hid (fun w' (h : Ext w w') => l02Own_c a ca x w' (HX.out.mono h) (by omega) (fun i hi => by rw [hl.1.2 i hi]; omega))
  have HL := Lib.hid hl
  have H1 := Lib.hid h1
  have hl1 := hl.2.1
  have hl2 := hl.2.2
  clear ev h1 hut hsq hl hcy hV
  go_enter Try.func25, Try.ntmps25
  go_wp2_with fail
  refine (asB hs (l02Square_c _ _ _ _ (HX.out.mono hE))).mono ?_
  rintro e w1 ⟨rfl, E1⟩
  replace E1 := E1.ext
  go_wp2_with fail
  refine (asB H1.out (l03Node_c _ _ _ _ _ hxl)).mono ?_
  rintro e w2 ⟨rfl, rfl⟩
  go_wp2_with fail
  refine (HR.out _ (hE.trans E1)).mono ?_
  rintro e w3 ⟨a3, c3, rfl, hO3, E3⟩
  rw [BB.mkMat_len]
  have hMr := hO3.mat
  obtain ⟨p, o, rfl⟩ := hMr.base (by rw [BB.mkMat_len]; omega)
  have HMr := Lib.hid hMr
  have hE3 := (hE.trans E1).trans E3
  clear hO3 hMr
  go_wp2_with fail
  refine (HOw.out _ hE3).mono ?_
  rintro e w4 ⟨a4, c4, rfl, hO4, E4⟩
  obtain ⟨g, A, C, rfl, hM⟩ := hO4.open (by omega)
  have hEw := hE3.trans E4
  have hst := Lib.hid (FillD.start (F := upE x u) (I := ent x) (m := x.length) (n := x.length) (D := fun i j => i < 0) HL.out.1 (fun i j _ _ => rfl) (fun i j _ _ => Nat.not_lt_zero _))
  clear hO4
  go_wp2
  go_loopw [8] (fun i wr => ∃ (k : Nat) (M : List (List Int)), k ≤ x.length ∧ i = .int .i64 k ∧ Ext w3 wr ∧ Mat wr w3.heap.size g c4 A C M ∧ Hid (FillD (upE x u) (ent x) x.length x.length (fun i j => i < k) M)) (fun i _ => x.length - (intOf i).toNat)
  case atStart => exact ⟨0, x, Nat.zero_le _, rfl, E4, hM, hst⟩
  case round =>
    obtain ⟨k, M, hk, rfl, hE2, hM2, hF⟩ := hrel
    clear hM hst
    by_cases hlt : k < x.length
    · go_wp2
      go_loopw [9] (fun i wr => ∃ (t : Nat) (M : List (List Int)), t ≤ x.length ∧ i = .int .i64 t ∧ Ext w3 wr ∧ Mat wr w3.heap.size g c4 A C M ∧ Hid (FillD (upE x u) (ent x) x.length x.length (fun i j => i < k ∨ (i = k ∧ j < t)) M)) (fun i _ => x.length - (intOf i).toNat)
      case atStart => exact ⟨0, M, Nat.zero_le _, rfl, hE2, hM2, hF.out.congr fun i j _ _ => by omega⟩
      case round =>
        obtain ⟨t, M3, ht, rfl, hE5, hM3, hF3⟩ := hrel
        clear hE2 hM2
        by_cases hltn : t < x.length
        · obtain ⟨q1, o1, cc1, d1, dd, -⟩ := HMr.out.hdr (BB.rect_mk _ _ _) hlt (by omega)
          have d2 := hE5.cell (dd u hu)
          replace d1 := hE5.cell d1
          obtain ⟨q2, o2, cc2, e1, ee, -⟩ := HMr.out.hdr (BB.rect_mk _ _ _) hltn (by omega)
          have e2 := hE5.cell (ee u hu)
          replace e1 := hE5.cell e1
          rw [BB.mkMat_ent hlt hu] at d2
          rw [BB.mkMat_ent hltn hu] at e2
          clear dd ee
          by_cases hc : (wB x x.length k u && wB x x.length t u) = true
          · have hnext : Hid (FillD (upE x u) (ent x) x.length x.length (fun i j => i < k ∨ (i = k ∧ j < t + 1)) M3) := hF3.out.swap (fun i j _ _ hd => ⟨rfl, by omega⟩) (fun i j _ _ hd => by
              by_cases e : i < k ∨ (i = k ∧ j < t)
              · exact .inl e
              · refine .inr ⟨?_, e⟩
                obtain ⟨rfl, rfl⟩ : i = k ∧ j = t := by omega
                unfold upE; rw [if_pos hc])
            rw [Bool.and_eq_true] at hc
            rw [hc.1] at d2
            rw [hc.2] at e2
            clear hF3 hc
            go_wp2
            go_roundw
            case rel => exact ⟨t + 1, M3, by omega, by go_num, hE5, hM3, hnext⟩
            case measure => simp [intOf]; omega
          · have hv : upE x u k t = -1000000000000000 := by unfold upE; rw [if_neg hc]
            have hkM : k < M3.length := by rw [hF3.out.1.1]; exact hlt
            have hrk : (row M3 k).length = x.length := hF3.out.1.2 k hlt
            have g1 := hM3.cell hkM
            obtain ⟨r, hA, hBr, hrs, hce, hfe⟩ := hM3.addr hkM (by rw [hrk]; omega)
            have g2 := hce t (by rw [hrk]; exact hltn)
            have g3 := hfe t
            rw [hrk, hA] at g1
            have hset := fun z => hM3.set hkM hA t z
            have hset := Lib.hid hset
            have hnext := hF3.out.step (D' := fun i j => i < k ∨ (i = k ∧ j < t + 1)) hlt hltn fun i j _ _ => by omega
            rw [hv] at hnext
            have hnext := Lib.hid hnext
            clear hce hfe hrk hA hF3 hv
            generalize wB x x.length k u = b1 at *
            generalize wB x x.length t u = b2 at *
            cases b1
            · clear hc
              go_wp2
              go_roundw
              case rel =>
                refine ⟨t + 1, _, by omega, by go_num, ?_, ?_, hnext.out⟩
                · repeat (first | exact hE5 | refine Ext.drewN ?_ _ | refine Ext.drew ?_ | refine Ext.set ?_ hBr _)
                · exact (hset.out _).ext ⟨rfl, rfl, rfl, Nat.le_refl _, fun _ _ => rfl⟩
              case measure => simp [intOf]; omega
            · cases b2
              · clear hc
                go_wp2
                go_roundw
                case rel =>
                  refine ⟨t + 1, _, by omega, by go_num, ?_, ?_, hnext.out⟩
                  · repeat (first | exact hE5 | refine Ext.drewN ?_ _ | refine Ext.drew ?_ | refine Ext.set ?_ hBr _)
                  · exact (hset.out _).ext ⟨rfl, rfl, rfl, Nat.le_refl _, fun _ _ => rfl⟩
                case measure => simp [intOf]; omega
              · exact absurd rfl hc
        · obtain rfl : x.length = t := by omega
          go_wp2
          go_roundw
          case rel => exact ⟨k + 1, M3, by omega, by go_num, hE5, hM3, hF3.out.congr fun i j hi hj => by omega⟩
          case measure => simp [intOf]; omega
    · obtain rfl : x.length = k := by omega
      have e := hF.out.done fun i j hi hj => hi
      replace e : M = upM x u := e
      subst e
      have hm := hM2.at
      have hE6 := hE3.trans hE2
      have HM6 := Lib.hid hm
      clear hm hM2 hF
      go_wp2_with fail
      refine (HCy.out _ _ _ HM6.out).mono ?_
      rintro e w7 ⟨rfl, E7⟩
      obtain ⟨d0, d1, g0, g1⟩ := HB.ext (((E1.trans E3).trans hE2).trans E7)
      have hEE := hE6.trans E7
      go_wp2
      refine bodyPost_ret (v := .tuple #[.agg #[.int .i64 (V.1.1), .int .i64 (V.1.2)], .int .i64 (V.2)]) (by simp [results, Try.results25, go_sem, d0, d1]) rfl ⟨rfl, ?_⟩
      repeat (first | exact hEE | refine Ext.set ?_ (Nat.le_refl _) _)
end Go.Proofs.Ytljchmkoafahgaa
