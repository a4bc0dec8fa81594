/- Contracts of CanReach, IsIrreducible and ComponentsOf, the program's and the reference's. No condition. -/
import Derived.Test.YtokhkpbebimohaaRC
namespace Go.Proofs.Ytokhkpbebimohaa
set_option linter.unusedVariables false
set_option linter.unusedSimpArgs false
open Go.RowKit

theorem implCan_c (a : Option Addr) (ca : Nat) (x : List (List Int)) (f t : Int) (w : World) (hx : MatAt w a x) :
    Calls Try.prog 14 #[.slice a x.length ca, .int .i64 f, .int .i64 t] w fun e w' => e = .returned (.tuple #[.bool (canV x f t).1, .int .i64 (canV x f t).2]) ∧ Ext w w' := by
  have hxl := hx.len
  cases hs : isSq x
  · have e : canV x f t = (false, 1) := by simp [canV, hs]
    rw [e]; clear e
    go_enter Try.func14, Try.ntmps14
    go_wp2_with fail
    refine (asB hs (isSquare_c _ _ _ _ hx)).mono ?_
    rintro e w1 ⟨rfl, E1⟩
    go_wp2
    go_ret2
    exact ⟨rfl, E1⟩
  cases h1 : inR f 0 ((x.length : Int) - 1)
  · have e : canV x f t = (false, 2) := by simp [canV, hs, h1]
    rw [e]; clear e
    have H1 := Lib.hid h1
    clear h1
    go_enter Try.func14, Try.ntmps14
    go_wp2_with fail
    refine (asB hs (isSquare_c _ _ _ _ hx)).mono ?_
    rintro e w1 ⟨rfl, E1⟩
    replace E1 := E1
    go_wp2_with fail
    refine (asB H1.out (isNode_c _ _ _ _ _ hxl)).mono ?_
    rintro e w2 ⟨rfl, rfl⟩
    go_wp2
    go_ret2
    exact ⟨rfl, E1⟩
  cases h2 : inR t 0 ((x.length : Int) - 1)
  · have e : canV x f t = (false, 2) := by simp [canV, hs, h2]
    rw [e]; clear e
    have H1 := Lib.hid h1
    have H2 := Lib.hid h2
    clear h1 h2
    go_enter Try.func14, Try.ntmps14
    go_wp2_with fail
    refine (asB hs (isSquare_c _ _ _ _ hx)).mono ?_
    rintro e w1 ⟨rfl, E1⟩
    replace E1 := E1
    go_wp2_with fail
    refine (asB H1.out (isNode_c _ _ _ _ _ hxl)).mono ?_
    rintro e w2 ⟨rfl, rfl⟩
    go_wp2_with fail
    refine (asB H2.out (isNode_c _ _ _ _ _ hxl)).mono ?_
    rintro e w2 ⟨rfl, rfl⟩
    go_wp2
    go_ret2
    exact ⟨rfl, E1⟩
  have e : canV x f t = (wB x x.length f.toNat t.toNat, 0) := by simp [canV, hs, h1, h2]
  rw [e]; clear e
  obtain ⟨u, rfl, hu, hut⟩ := node_nat h1
  obtain ⟨v, rfl, hv, hvt⟩ := node_nat h2
  rw [hut, hvt]
  have H1 := Lib.hid h1
  have H2 := Lib.hid h2
  clear h1 h2 hut hvt
  go_enter Try.func14, Try.ntmps14
  go_wp2_with fail
  refine (asB hs (isSquare_c _ _ _ _ hx)).mono ?_
  rintro e w1 ⟨rfl, E1⟩
  replace E1 := E1
  go_wp2_with fail
  refine (asB H1.out (isNode_c _ _ _ _ _ hxl)).mono ?_
  rintro e w2 ⟨rfl, rfl⟩
  go_wp2_with fail
  refine (asB H2.out (isNode_c _ _ _ _ _ hxl)).mono ?_
  rintro e w2 ⟨rfl, rfl⟩
  go_wp2_with fail
  refine (reaching_c _ _ _ _ (hx.mono E1) hs).mono ?_
  rintro e w3 ⟨ar, cr, rfl, hO, E3⟩
  have hmr := hO.mat
  have hml : (BB.mkMat x.length x.length (wB x x.length)).length = x.length := BB.mkMat_len _ _ _
  rw [hml]
  obtain ⟨p, o, rfl⟩ := hmr.base (by omega)
  obtain ⟨q, o2, c, d1, dd, -⟩ := hmr.hdr (BB.rect_mk _ _ _) hu (by omega)
  have d2 := dd v hv
  rw [BB.mkMat_ent hu hv] at d2
  clear hx hO hmr hml dd
  go_wp2
  go_ret2
  exact ⟨rfl, E1.trans E3⟩
theorem implIrr_c (a : Option Addr) (ca : Nat) (x : List (List Int)) (w : World) (hx : MatAt w a x) :
    Calls Try.prog 16 #[.slice a x.length ca] w fun e w' => e = .returned (.tuple #[.bool (irrV x).1, .int .i64 (irrV x).2]) ∧ Ext w w' := by
  cases hs : isSq x
  · have e : irrV x = (false, 1) := by simp [irrV, hs]
    rw [e]; clear e
    go_enter Try.func16, Try.ntmps16
    go_wp2_with fail
    refine (asB hs (isSquare_c _ _ _ _ hx)).mono ?_
    rintro e w1 ⟨rfl, E1⟩
    replace E1 := E1
    go_wp2
    go_ret2
    exact ⟨rfl, E1⟩
  have e : irrV x = (decide ((compsM (wB x x.length) x.length x.length).length = 1), 0) := by simp [irrV, hs]
  rw [e]; clear e
  obtain ⟨L, hL⟩ : ∃ L, compsM (wB x x.length) x.length x.length = L := ⟨_, rfl⟩
  rw [hL]
  have HL := Lib.hid hL
  clear hL
  by_cases hl : L.length = 1
  · have hl' : ((L.length : Int) == 1) = true := by rw [hl]; rfl
    rw [decide_eq_true hl]
    clear hl
    go_enter Try.func16, Try.ntmps16
    go_wp2_with fail
    refine (asB hs (isSquare_c _ _ _ _ hx)).mono ?_
    rintro e w1 ⟨rfl, E1⟩
    replace E1 := E1
    go_wp2_with fail
    refine (componentsOf_c _ _ _ _ (hx.mono E1) hs).mono ?_
    rw [HL.out]
    rintro e w3 ⟨ar, cr, rfl, hO, E3⟩
    have hml := hO.mat.len
    clear hO
    go_wp2
    go_ret2
    exact ⟨rfl, E1.trans E3⟩
  · have hl' : ((L.length : Int) == 1) = false := by rw [beq_eq_false_iff_ne]; omega
    rw [decide_eq_false hl]
    clear hl
    go_enter Try.func16, Try.ntmps16
    go_wp2_with fail
    refine (asB hs (isSquare_c _ _ _ _ hx)).mono ?_
    rintro e w1 ⟨rfl, E1⟩
    replace E1 := E1
    go_wp2_with fail
    refine (componentsOf_c _ _ _ _ (hx.mono E1) hs).mono ?_
    rw [HL.out]
    rintro e w3 ⟨ar, cr, rfl, hO, E3⟩
    have hml := hO.mat.len
    clear hO
    go_wp2
    go_ret2
    exact ⟨rfl, E1.trans E3⟩
theorem implComp_c (a : Option Addr) (ca : Nat) (x : List (List Int)) (w : World) (hx : MatAt w a x) : Calls Try.prog 11 #[.slice a x.length ca] w (GivesM2 w (compV x).1 (compV x).2) := by
  cases hs : isSq x
  · have e : compV x = ([], 1) := by simp [compV, hs]
    rw [e]; clear e
    go_enter Try.func11, Try.ntmps11
    go_wp2_with fail
    refine (asB hs (isSquare_c _ _ _ _ hx)).mono ?_
    rintro e w1 ⟨rfl, E1⟩
    replace E1 := E1
    go_wp2
    go_ret2
    exact ⟨none, 0, rfl, OwnM.nil _ _, E1⟩
  have e : compV x = (compsM (wB x x.length) x.length x.length, 0) := by simp [compV, hs]
  rw [e]; clear e
  go_enter Try.func11, Try.ntmps11
  go_wp2_with fail
  refine (asB hs (isSquare_c _ _ _ _ hx)).mono ?_
  rintro e w1 ⟨rfl, E1⟩
  replace E1 := E1
  go_wp2_with fail
  refine (componentsOf_c _ _ _ _ (hx.mono E1) hs).mono ?_
  rintro e w3 ⟨ar, cr, rfl, hO, E3⟩
  go_wp2
  go_ret2
  exact ⟨ar, cr, rfl, hO.mono E1.size, E1.trans E3⟩

theorem specCan_c (a : Option Addr) (ca : Nat) (x : List (List Int)) (f t : Int) (w : World) (hx : MatAt w a x) :
    Calls Try.prog 15 #[.slice a x.length ca, .int .i64 f, .int .i64 t] w fun e w' => e = .returned (.tuple #[.bool (canV x f t).1, .int .i64 (canV x f t).2]) ∧ Ext w w' := by
  have hxl := hx.len
  cases hs : isSq x
  · have e : canV x f t = (false, 1) := by simp [canV, hs]
    rw [e]; clear e
    go_enter Try.func15, Try.ntmps15
    go_wp2_with fail
    refine (asB hs (l02Square_c _ _ _ _ hx)).mono ?_
    rintro e w1 ⟨rfl, E1⟩
    replace E1 := E1.ext
    go_wp2
    go_ret2
    exact ⟨rfl, E1⟩
  cases h1 : inR f 0 ((x.length : Int) - 1)
  · have e : canV x f t = (false, 2) := by simp [canV, hs, h1]
    rw [e]; clear e
    have H1 := Lib.hid h1
    clear h1
    go_enter Try.func15, Try.ntmps15
    go_wp2_with fail
    refine (asB hs (l02Square_c _ _ _ _ hx)).mono ?_
    rintro e w1 ⟨rfl, E1⟩
    replace E1 := E1.ext
    go_wp2_with fail
    refine (asB H1.out (l03Node_c _ _ _ _ _ hxl)).mono ?_
    rintro e w2 ⟨rfl, rfl⟩
    go_wp2
    go_ret2
    exact ⟨rfl, E1⟩
  cases h2 : inR t 0 ((x.length : Int) - 1)
  · have e : canV x f t = (false, 2) := by simp [canV, hs, h2]
    rw [e]; clear e
    have H1 := Lib.hid h1
    have H2 := Lib.hid h2
    clear h1 h2
    go_enter Try.func15, Try.ntmps15
    go_wp2_with fail
    refine (asB hs (l02Square_c _ _ _ _ hx)).mono ?_
    rintro e w1 ⟨rfl, E1⟩
    replace E1 := E1.ext
    go_wp2_with fail
    refine (asB H1.out (l03Node_c _ _ _ _ _ hxl)).mono ?_
    rintro e w2 ⟨rfl, rfl⟩
    go_wp2_with fail
    refine (asB H2.out (l03Node_c _ _ _ _ _ hxl)).mono ?_
    rintro e w2 ⟨rfl, rfl⟩
    go_wp2
    go_ret2
    exact ⟨rfl, E1⟩
  have e : canV x f t = (wB x x.length f.toNat t.toNat, 0) := by simp [canV, hs, h1, h2]
  rw [e]; clear e
  obtain ⟨u, rfl, hu, hut⟩ := node_nat h1
  obtain ⟨v, rfl, hv, hvt⟩ := node_nat h2
  rw [hut, hvt]
  have H1 := Lib.hid h1
  have H2 := Lib.hid h2
  clear h1 h2 hut hvt
  go_enter Try.func15, Try.ntmps15
  go_wp2_with fail
  refine (asB hs (l02Square_c _ _ _ _ hx)).mono ?_
  rintro e w1 ⟨rfl, E1⟩
  replace E1 := E1.ext
  go_wp2_with fail
  refine (asB H1.out (l03Node_c _ _ _ _ _ hxl)).mono ?_
  rintro e w2 ⟨rfl, rfl⟩
  go_wp2_with fail
  refine (asB H2.out (l03Node_c _ _ _ _ _ hxl)).mono ?_
  rintro e w2 ⟨rfl, rfl⟩
  go_wp2_with fail
  refine (l05Reach_c _ _ _ _ (hx.mono E1) hs).mono ?_
  rintro e w3 ⟨ar, cr, rfl, hO, E3⟩
  have hmr := hO.mat
  have hml : (BB.mkMat x.length x.length (wB x x.length)).length = x.length := BB.mkMat_len _ _ _
  rw [hml]
  obtain ⟨p, o, rfl⟩ := hmr.base (by omega)
  obtain ⟨q, o2, c, d1, dd, -⟩ := hmr.hdr (BB.rect_mk _ _ _) hu (by omega)
  have d2 := dd v hv
  rw [BB.mkMat_ent hu hv] at d2
  clear hx hO hmr hml dd
  go_wp2
  go_ret2
  exact ⟨rfl, E1.trans E3⟩
theorem specComp_c (a : Option Addr) (ca : Nat) (x : List (List Int)) (w : World) (hx : MatAt w a x) : Calls Try.prog 12 #[.slice a x.length ca] w (GivesM2 w (compV x).1 (compV x).2) := by
  cases hs : isSq x
  · have e : compV x = ([], 1) := by simp [compV, hs]
    rw [e]; clear e
    go_enter Try.func12, Try.ntmps12
    go_wp2_with fail
    refine (asB hs (l02Square_c _ _ _ _ hx)).mono ?_
    rintro e w1 ⟨rfl, E1⟩
    replace E1 := E1.ext
    go_wp2
    go_ret2
    exact ⟨none, 0, rfl, OwnM.nil _ _, E1⟩
  have e : compV x = (compsM (wB x x.length) x.length x.length, 0) := by simp [compV, hs]
  rw [e]; clear e
  go_enter Try.func12, Try.ntmps12
  go_wp2_with fail
  refine (asB hs (l02Square_c _ _ _ _ hx)).mono ?_
  rintro e w1 ⟨rfl, E1⟩
  replace E1 := E1.ext
  go_wp2_with fail
  refine (l05Components_c _ _ _ _ (hx.mono E1) hs).mono ?_
  rintro e w3 ⟨ar, cr, rfl, hO, E3⟩
  go_wp2
  go_ret2
  exact ⟨ar, cr, rfl, hO.mono E1.size, E1.trans E3⟩

end Go.Proofs.Ytokhkpbebimohaa
