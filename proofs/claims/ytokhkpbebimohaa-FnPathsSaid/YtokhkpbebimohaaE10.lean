/- Contracts of MeanOf and IsMeanCertificate, the program's and the reference's. Conditions: the lengths of the lists. -/
import Derived.Test.YtokhkpbebimohaaGO
import Derived.Test.YtokhkpbebimohaaGO
import Derived.Test.YtokhkpbebimohaaGS
import Derived.Test.YtokhkpbebimohaaGP
namespace Go.Proofs.Ytokhkpbebimohaa
set_option linter.unusedVariables false
set_option linter.unusedSimpArgs false
open Go.RowKit

theorem Box2.putE {w : World} {b : Nat} {x y : Value} (h : Box2 w b x y) (x' y' : Value) : Box2 ((w.setCell ⟨b, 0, none⟩ x').setCell ⟨b, 1, none⟩ y') b x' y' := by
  have h0 := h.c0; have h1 := h.c1
  have k1 : (w.setCell ⟨b, 0, none⟩ x').cell? ⟨b, 1, none⟩ = some y := by rw [World.cell?_setCell_other _ _ _ _ (by simp)]; exact h1
  refine ⟨?_, World.cell?_setCell_same _ _ _ k1, by simp [h.f0], by simp [h.f1]⟩
  rw [World.cell?_setCell_other _ _ _ _ (by simp)]; exact World.cell?_setCell_same _ _ _ h0
theorem box_putE (w : World) (x y : Value) (t : TypeId) : ∃ W, w.alloc (.cells #[.int .i64 0, .int .i64 0] t) = W ∧ Box2 W w.heap.size (.int .i64 0) (.int .i64 0) ∧ Box2 ((W.setCell ⟨w.heap.size, 0, none⟩ x).setCell ⟨w.heap.size, 1, none⟩ y) w.heap.size x y ∧ W.heap.size = w.heap.size + 1 ∧ Ext w W ∧ Ext w ((W.setCell ⟨w.heap.size, 0, none⟩ x).setCell ⟨w.heap.size, 1, none⟩ y) := by
  obtain ⟨W, h1, h2, h3, h4⟩ := alloc2_facts w (.int .i64 0) (.int .i64 0) t
  exact ⟨W, h1, h2, h2.putE x y, h3, h4, (h4.set (Nat.le_refl _) _).set (Nat.le_refl _) _⟩
def optR (n : Nat) : Option Int → (Int × Int) × Int
  | none => ((0, 0), 4)
  | some t => chkR (ratOf t n)
def meanV (x : List (List Int)) (xs : List Int) : (Int × Int) × Int := if isSq x then optR xs.length (cycleO x xs) else ((0, 0), 1)
theorem cycleO_bd {a : List (List Int)} (h : isSq a = true) {xs : List Int} {t : Int} (e : cycleO a xs = some t) : 0 < xs.length ∧ -1000000 * (xs.length : Int) ≤ t ∧ t ≤ 1000000 * (xs.length : Int) := by
  unfold cycleO at e
  split at e
  · cases e
  · rename_i hne; exact ⟨by omega, cycO_bd h e⟩

theorem checkedRatio_c (a b : Int) (w : World) :
    Calls Try.prog 105 #[.agg #[.int .i64 a, .int .i64 b]] w fun e w' => e = .returned (.tuple #[.agg #[.int .i64 ((chkR (a, b)).1).1, .int .i64 ((chkR (a, b)).1).2], .int .i64 (chkR (a, b)).2]) ∧ Ext w w' := by
  obtain ⟨W1, hW1, HA, hs1, hE1⟩ := alloc2_facts w (.int .i64 a) (.int .i64 b) 55
  obtain ⟨W2, hW2, HB, hs2, hE2⟩ := alloc2_facts W1 (.int .i64 0) (.int .i64 0) 55
  have hAB := HA.ext hE2
  have hE := hE1.trans hE2
  rw [hs1] at HB
  have hlt : w.heap.size ≤ w.heap.size + 1 := Nat.le_succ _
  obtain ⟨c0, c1, -, -⟩ := hAB
  cases hr : isRat (a, b)
  · have e : chkR (a, b) = ((0, 0), 3) := by unfold chkR; rw [hr]; rfl
    rw [e]; clear e
    go_enter Try.func105, Try.ntmps105
    go_wp2_with fail
    refine (asB hr (isRatio_c _ _ _)).mono ?_
    rintro e w3 ⟨rfl, hE3⟩
    obtain ⟨d0, d1, g0, g1⟩ := HB.ext hE3
    replace c0 := hE3.cell c0
    replace c1 := hE3.cell c1
    have hEE := hE.trans hE3
    go_wp2
    refine bodyPost_ret (v := .tuple #[.agg #[.int .i64 (0), .int .i64 (0)], .int .i64 (3)]) (by simp [results, Try.results105, go_sem, d0, d1]) rfl ⟨rfl, ?_⟩
    repeat (first | exact hEE | refine Ext.set ?_ hlt _)
  · have e : chkR (a, b) = ((a, b), 0) := by unfold chkR; rw [hr]; rfl
    rw [e]; clear e
    go_enter Try.func105, Try.ntmps105
    go_wp2_with fail
    refine (asB hr (isRatio_c _ _ _)).mono ?_
    rintro e w3 ⟨rfl, hE3⟩
    obtain ⟨d0, d1, g0, g1⟩ := HB.ext hE3
    replace c0 := hE3.cell c0
    replace c1 := hE3.cell c1
    have hEE := hE.trans hE3
    go_wp2
    refine bodyPost_ret (v := .tuple #[.agg #[.int .i64 (a), .int .i64 (b)], .int .i64 (0)]) (by simp [results, Try.results105, go_sem, d0, d1]) rfl ⟨rfl, ?_⟩
    repeat (first | exact hEE | refine Ext.set ?_ hlt _)

theorem l04Result_c (a b : Int) (w : World) :
    Calls Try.prog 108 #[.agg #[.int .i64 a, .int .i64 b]] w fun e w' => e = .returned (.tuple #[.agg #[.int .i64 ((chkR (a, b)).1).1, .int .i64 ((chkR (a, b)).1).2], .int .i64 (chkR (a, b)).2]) ∧ Ext w w' := by
  obtain ⟨W1, hW1, HA, hs1, hE1⟩ := alloc2_facts w (.int .i64 a) (.int .i64 b) 55
  obtain ⟨W2, hW2, HB, hs2, hE2⟩ := alloc2_facts W1 (.int .i64 0) (.int .i64 0) 55
  have hAB := HA.ext hE2
  have hE := hE1.trans hE2
  rw [hs1] at HB
  have hlt : w.heap.size ≤ w.heap.size + 1 := Nat.le_succ _
  obtain ⟨c0, c1, -, -⟩ := hAB
  cases hr : isRat (a, b)
  · have e : chkR (a, b) = ((0, 0), 3) := by unfold chkR; rw [hr]; rfl
    rw [e]; clear e
    go_enter Try.func108, Try.ntmps108
    go_wp2_with fail
    refine (asB hr (sIsRatio_c _ _ _)).mono ?_
    rintro e w3 ⟨rfl, hE3⟩
    obtain ⟨d0, d1, g0, g1⟩ := HB.ext hE3
    replace c0 := hE3.cell c0
    replace c1 := hE3.cell c1
    have hEE := hE.trans hE3
    go_wp2
    refine bodyPost_ret (v := .tuple #[.agg #[.int .i64 (0), .int .i64 (0)], .int .i64 (3)]) (by simp [results, Try.results108, go_sem, d0, d1]) rfl ⟨rfl, ?_⟩
    repeat (first | exact hEE | refine Ext.set ?_ hlt _)
  · have e : chkR (a, b) = ((a, b), 0) := by unfold chkR; rw [hr]; rfl
    rw [e]; clear e
    go_enter Try.func108, Try.ntmps108
    go_wp2_with fail
    refine (asB hr (sIsRatio_c _ _ _)).mono ?_
    rintro e w3 ⟨rfl, hE3⟩
    obtain ⟨d0, d1, g0, g1⟩ := HB.ext hE3
    replace c0 := hE3.cell c0
    replace c1 := hE3.cell c1
    have hEE := hE.trans hE3
    go_wp2
    refine bodyPost_ret (v := .tuple #[.agg #[.int .i64 (a), .int .i64 (b)], .int .i64 (0)]) (by simp [results, Try.results108, go_sem, d0, d1]) rfl ⟨rfl, ?_⟩
    repeat (first | exact hEE | refine Ext.set ?_ hlt _)

set_option maxHeartbeats 400000 in
theorem implMean_c {B : Nat} (a b : Option Addr) (ca cb : Nat) (x : List (List Int)) (xs : List Int) (w : World) (hx : MatAt w a x) (hy : OwnI w B (.slice b xs.length cb) xs) (hl : xs.length ≤ 1048576) :
    Calls Try.prog 48 #[.slice a x.length ca, .slice b xs.length cb] w fun e w' => e = .returned (.tuple #[.agg #[.int .i64 ((meanV x xs).1).1, .int .i64 ((meanV x xs).1).2], .int .i64 (meanV x xs).2]) ∧ Ext w w' := by
  obtain ⟨W, hW, HB, hs1, hE⟩ := alloc2_facts w (.int .i64 0) (.int .i64 0) 55
  cases hs : isSq x
  · have e : meanV x xs = ((0, 0), 1) := by simp [meanV, hs]
    rw [e]; clear e
    have HX := Lib.hid hx
    clear hx
    go_enter Try.func48, Try.ntmps48
    go_wp2_with fail
    refine (asB hs (isSquare_c _ _ _ _ (HX.out.mono hE))).mono ?_
    rintro e w1 ⟨rfl, E1⟩
    obtain ⟨d0, d1, g0, g1⟩ := HB.ext E1
    have hEE := hE.trans E1
    go_wp2
    refine bodyPost_ret (v := .tuple #[.agg #[.int .i64 (0), .int .i64 (0)], .int .i64 (1)]) (by simp [results, Try.results48, go_sem, d0, d1]) rfl ⟨rfl, ?_⟩
    repeat (first | exact hEE | refine Ext.set ?_ (Nat.le_refl _) _)
  have HX := Lib.hid (And.intro hx (And.intro hs hy))
  have HW := Lib.hid (fun w' (h : Ext w w') => cycleWeight_c a b ca cb x xs w' (hx.mono h) hs (hy.ext h) hl)
  have hyl := hy.ints.len
  cases hw : cycleO x xs with
  | none =>
    have e : meanV x xs = ((0, 0), 4) := by simp [meanV, hs, hw, optR]
    rw [e]; clear e
    rw [hw] at HW
    clear hx hs hy hw
    go_enter Try.func48, Try.ntmps48
    go_wp2_with fail
    refine (asB HX.out.2.1 (isSquare_c _ _ _ _ (HX.out.1.mono hE))).mono ?_
    rintro e w1 ⟨rfl, E1⟩
    obtain ⟨d0, d1, g0, g1⟩ := HB.ext E1
    have hEE := hE.trans E1
    go_wp2_with fail
    refine (HW.out _ hEE).mono ?_
    rintro e w2 ⟨rfl, rfl⟩
    simp only [Option.getD_none, Option.isSome_none]
    go_wp2
    refine bodyPost_ret (v := .tuple #[.agg #[.int .i64 (0), .int .i64 (0)], .int .i64 (4)]) (by simp [results, Try.results48, go_sem, d0, d1]) rfl ⟨rfl, ?_⟩
    repeat (first | exact hEE | refine Ext.set ?_ (Nat.le_refl _) _)
  | some t =>
    have e : meanV x xs = chkR (ratOf t xs.length) := by simp [meanV, hs, hw, optR]
    rw [e]; clear e
    obtain ⟨hp, hb1, hb2⟩ := cycleO_bd hs hw
    have hbt : -1048576000000 ≤ t ∧ t ≤ 1048576000000 := by omega
    rw [hw] at HW
    generalize hR : ratOf t xs.length = R
    have HR := Lib.hid hR
    clear hx hs hy hw hR hb1 hb2
    go_enter Try.func48, Try.ntmps48
    go_wp2_with fail
    refine (asB HX.out.2.1 (isSquare_c _ _ _ _ (HX.out.1.mono hE))).mono ?_
    rintro e w1 ⟨rfl, E1⟩
    have hEE := hE.trans E1
    go_wp2_with fail
    refine (HW.out _ hEE).mono ?_
    rintro e w2 ⟨rfl, rfl⟩
    simp only [Option.getD_some, Option.isSome_some]
    go_wp2_with fail
    refine (ratioOf_c t xs.length _ (by omega) (by omega) (by omega)).mono ?_
    rw [HR.out]
    rintro e w3 ⟨rfl, E3⟩
    go_wp2_with fail
    refine (checkedRatio_c R.1 R.2 _).mono ?_
    rintro e w4 ⟨rfl, E4⟩
    obtain ⟨d0, d1, g0, g1⟩ := HB.ext ((E1.trans E3).trans E4)
    have hE5 := (hEE.trans E3).trans E4
    go_wp2
    refine bodyPost_ret (v := .tuple #[.agg #[.int .i64 ((chkR R).1.1), .int .i64 ((chkR R).1.2)], .int .i64 (chkR R).2]) (by simp [results, Try.results48, go_sem, d0, d1]) rfl ⟨rfl, ?_⟩
    repeat (first | exact hE5 | refine Ext.set ?_ (Nat.le_refl _) _)

set_option maxHeartbeats 400000 in
theorem l04Mean_c {B : Nat} (a b : Option Addr) (ca cb : Nat) (x : List (List Int)) (xs : List Int) (w : World) (hx : MatAt w a x) (hy : OwnI w B (.slice b xs.length cb) xs) (hl : xs.length ≤ 1048576) (hs : isSq x = true) :
    Calls Try.prog 107 #[.slice a x.length ca, .slice b xs.length cb] w fun e w' => e = .returned (.tuple #[.agg #[.int .i64 (((cycleO x xs).map fun t => ratOf t xs.length).getD (0, 0)).1, .int .i64 (((cycleO x xs).map fun t => ratOf t xs.length).getD (0, 0)).2], .bool (cycleO x xs).isSome]) ∧ Ext w w' := by
  obtain ⟨W, hW, HB, hs1, hE⟩ := alloc2_facts w (.int .i64 0) (.int .i64 0) 55
  have HW := Lib.hid (fun w' (h : Ext w w') => l03Cycle_c a b ca cb x xs w' (hx.mono h) hs (hy.ext h) hl)
  have hyl := hy.ints.len
  cases hw : cycleO x xs with
  | none =>
    simp only [Option.map_none, Option.getD_none, Option.isSome_none]
    rw [hw] at HW
    clear hx hs hy hw
    go_enter Try.func107, Try.ntmps107
    go_wp2_with fail
    refine (HW.out _ hE).mono ?_
    rintro e w2 ⟨rfl, E2⟩
    simp only [Option.getD_none, Option.isSome_none]
    obtain ⟨d0, d1, g0, g1⟩ := HB.ext E2
    have hEE := hE.trans E2
    go_wp2
    refine bodyPost_ret (v := .tuple #[.agg #[.int .i64 (0), .int .i64 (0)], .bool false]) (by simp [results, Try.results107, go_sem, d0, d1]) rfl ⟨rfl, ?_⟩
    repeat (first | exact hEE | refine Ext.set ?_ (Nat.le_refl _) _)
  | some t =>
    simp only [Option.map_some, Option.getD_some, Option.isSome_some]
    obtain ⟨hp, hb1, hb2⟩ := cycleO_bd hs hw
    have hbt : -1048576000000 ≤ t ∧ t ≤ 1048576000000 := by omega
    rw [hw] at HW
    generalize hR : ratOf t xs.length = R
    have HR := Lib.hid hR
    clear hx hs hy hw hR hb1 hb2
    go_enter Try.func107, Try.ntmps107
    go_wp2_with fail
    refine (HW.out _ hE).mono ?_
    rintro e w2 ⟨rfl, E2⟩
    simp only [Option.getD_some, Option.isSome_some]
    go_wp2_with fail
    refine (l01Ratio_c t xs.length _ (by omega) (by omega) (by omega)).mono ?_
    rw [HR.out]
    rintro e w3 ⟨rfl, E3⟩
    obtain ⟨d0, d1, g0, g1⟩ := HB.ext (E2.trans E3)
    have hEE := (hE.trans E2).trans E3
    go_wp2
    refine bodyPost_ret (v := .tuple #[.agg #[.int .i64 (R.1), .int .i64 (R.2)], .bool true]) (by simp [results, Try.results107, go_sem, d0, d1]) rfl ⟨rfl, ?_⟩
    repeat (first | exact hEE | refine Ext.set ?_ (Nat.le_refl _) _)

set_option maxHeartbeats 400000 in
theorem specMean_c {B : Nat} (a b : Option Addr) (ca cb : Nat) (x : List (List Int)) (xs : List Int) (w : World) (hx : MatAt w a x) (hy : OwnI w B (.slice b xs.length cb) xs) (hl : xs.length ≤ 1048576) :
    Calls Try.prog 49 #[.slice a x.length ca, .slice b xs.length cb] w fun e w' => e = .returned (.tuple #[.agg #[.int .i64 ((meanV x xs).1).1, .int .i64 ((meanV x xs).1).2], .int .i64 (meanV x xs).2]) ∧ Ext w w' := by
  obtain ⟨W, hW, HB, hs1, hE⟩ := alloc2_facts w (.int .i64 0) (.int .i64 0) 55
  have hE1' : Ext W W := Ext.refl W
  cases hs : isSq x
  · have e : meanV x xs = ((0, 0), 1) := by simp [meanV, hs]
    rw [e]; clear e
    have HX := Lib.hid hx
    clear hx
    go_enter Try.func49, Try.ntmps49
    go_wp2_with fail
    refine (asB hs (l02Square_c _ _ _ _ (HX.out.mono hE))).mono ?_
    rintro e w1 ⟨rfl, E1⟩
    replace E1 := E1.ext
    obtain ⟨d0, d1, g0, g1⟩ := HB.ext E1
    have hEE := hE.trans E1
    go_wp2
    refine bodyPost_ret (v := .tuple #[.agg #[.int .i64 (0), .int .i64 (0)], .int .i64 (1)]) (by simp [results, Try.results49, go_sem, d0, d1]) rfl ⟨rfl, ?_⟩
    repeat (first | exact hEE | refine Ext.set ?_ (Nat.le_refl _) _)
  have HX := Lib.hid (And.intro hx (And.intro hs hy))
  have HW := Lib.hid (fun w' (h : Ext w w') => l04Mean_c a b ca cb x xs w' (hx.mono h) (hy.ext h) hl hs)
  cases hw : cycleO x xs with
  | none =>
    have e : meanV x xs = ((0, 0), 4) := by simp [meanV, hs, hw, optR]
    rw [e]; clear e
    rw [hw] at HW
    simp only [Option.map_none, Option.getD_none, Option.isSome_none] at HW
    clear hx hs hy hw
    go_enter Try.func49, Try.ntmps49
    go_wp2_with fail
    refine (asB HX.out.2.1 (l02Square_c _ _ _ _ (HX.out.1.mono hE))).mono ?_
    rintro e w1 ⟨rfl, E1⟩
    replace E1 := E1.ext
    have hEE := hE.trans E1
    go_wp2_with fail
    refine (HW.out _ hEE).mono ?_
    rintro e w2 ⟨rfl, E2⟩
    obtain ⟨W3, hW3, HC, HC2, hs4, hE4, hE5⟩ := box_putE w2 (.int .i64 0) (.int .i64 0) 55
    obtain ⟨q0, q1, p0, p1⟩ := HC
    obtain ⟨d0, d1, g0, g1⟩ := HB.ext ((E1.trans E2).trans hE5)
    have hE6 := (hEE.trans E2).trans hE5
    have hz := hEE.size
    have hz2 := E2.size
    have hne : w2.heap.size ≠ w.heap.size := by have := hE1'.size; have := E1.size; have := E2.size; omega
    clear HC2
    go_wp2
    refine bodyPost_ret (v := .tuple #[.agg #[.int .i64 (0), .int .i64 (0)], .int .i64 (4)]) (by simp [results, Try.results49, go_sem, d0, d1]) rfl ⟨rfl, ?_⟩
    repeat (first | exact hE6 | refine Ext.set ?_ (Nat.le_refl _) _)
  | some t =>
    have e : meanV x xs = chkR (ratOf t xs.length) := by simp [meanV, hs, hw, optR]
    rw [e]; clear e
    rw [hw] at HW
    simp only [Option.map_some, Option.getD_some, Option.isSome_some] at HW
    generalize hR : ratOf t xs.length = R at *
    clear hx hs hy hw hR
    go_enter Try.func49, Try.ntmps49
    go_wp2_with fail
    refine (asB HX.out.2.1 (l02Square_c _ _ _ _ (HX.out.1.mono hE))).mono ?_
    rintro e w1 ⟨rfl, E1⟩
    replace E1 := E1.ext
    have hEE := hE.trans E1
    go_wp2_with fail
    refine (HW.out _ hEE).mono ?_
    rintro e w2 ⟨rfl, E2⟩
    obtain ⟨W3, hW3, HC, HC2, hs4, hE4, hE5⟩ := box_putE w2 (.int .i64 R.1) (.int .i64 R.2) 55
    obtain ⟨q0, q1, p0, p1⟩ := HC
    have hz := hEE.size
    have hz2 := E2.size
    have hne : w2.heap.size ≠ w.heap.size := by have := hE1'.size; have := E1.size; have := E2.size; omega
    go_wp2_with fail
    refine (l04Result_c R.1 R.2 _).mono ?_
    rintro e w4 ⟨rfl, E4⟩
    obtain ⟨d0, d1, g0, g1⟩ := HB.ext (((E1.trans E2).trans hE5).trans E4)
    have hE6 := ((hEE.trans E2).trans hE5).trans E4
    go_wp2
    refine bodyPost_ret (v := .tuple #[.agg #[.int .i64 ((chkR R).1.1), .int .i64 ((chkR R).1.2)], .int .i64 (chkR R).2]) (by simp [results, Try.results49, go_sem, d0, d1]) rfl ⟨rfl, ?_⟩
    repeat (first | exact hE6 | refine Ext.set ?_ (Nat.le_refl _) _)

end Go.Proofs.Ytokhkpbebimohaa
