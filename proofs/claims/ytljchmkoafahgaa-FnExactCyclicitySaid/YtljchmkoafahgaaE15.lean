/- Contracts of the critical matrix: l06Code, IsCriticalCycle, criticalMatrix, criticalOf. Conditions: the forms of the matrices. -/
import Derived.Test.YtljchmkoafahgaaGF
import Derived.Test.YtljchmkoafahgaaGL
import Derived.Test.YtljchmkoafahgaaM14
import Derived.Deep.RegionHeld3
namespace Go.Proofs.Ytljchmkoafahgaa
set_option linter.unusedVariables false
set_option linter.unusedSimpArgs false
open Go.RowKit

def codeV (x : List (List Int)) : Int := if isSq x then (if (bestO x x.length).isSome then 0 else 4) else 1
def critCO (n : Nat) (R : Int × Int) : Option Int → Bool
  | none => false
  | some t => decide (ratOf t n = R)
def critCV (x : List (List Int)) (xs : List Int) : Bool × Int := if isSq x then (match bestO x x.length with | none => (false, 4) | some R => (critCO xs.length R (cycleO x xs), 0)) else (false, 1)
def critV (x : List (List Int)) : List (List Int) × Int := if isSq x then (match bestO x x.length with | none => ([], 4) | some R => (critM x R, 0)) else ([], 1)
theorem critV_tot (x : List (List Int)) : tot (critV x).1 ≤ 1000000 := by
  unfold critV
  split
  · rename_i h
    have := isSq_rect h
    split
    · simp [tot]
    · exact tot_small _ (by omega) (by omega)
  · simp [tot]
theorem keepQ {W w' : World} {p q : Addr} {x y : Value} (c0 : W.cell? p = some x) (c1 : W.cell? q = some y) (h : Ext W w') : Ext W w' ∧ w'.cell? p = some x ∧ w'.cell? q = some y := ⟨h, h.cell c0, h.cell c1⟩
/-- a variable of one cell is made and written -/
theorem box_putS (w : World) (z v : Value) (t : TypeId) : ∃ W, w.alloc (.cells #[z] t) = W ∧ W.cell? ⟨w.heap.size, 0, none⟩ = some z ∧ W.frozen? ⟨w.heap.size, 0, none⟩ = false ∧ (W.setCell ⟨w.heap.size, 0, none⟩ v).cell? ⟨w.heap.size, 0, none⟩ = some v ∧ Ext w W ∧ Ext w (W.setCell ⟨w.heap.size, 0, none⟩ v) := by
  have h0 : (w.alloc (.cells #[z] t)).cell? ⟨w.heap.size, 0, none⟩ = some z := by simp
  exact ⟨_, rfl, h0, by simp, World.cell?_setCell_same _ _ _ h0, (Ext.refl w).alloc _, ((Ext.refl w).alloc _).set (Nat.le_refl _) _⟩

theorem cycleMean_none (a : Option Addr) (ca : Nat) (x : List (List Int)) (w : World) (hx : MatAt w a x) (hs : isSq x = true) (hb : bestO x x.length = none) :
    Calls Try.prog 67 #[.slice a x.length ca] w fun e w' => e = .returned (.tuple #[.agg #[.int .i64 (((0, 0) : Int × Int)).1, .int .i64 (((0, 0) : Int × Int)).2], .bool false]) ∧ Ext w w' := by
  have := cycleMean_c a ca x w hx hs
  rw [hb] at this
  exact this
theorem cycleMean_some (a : Option Addr) (ca : Nat) (x : List (List Int)) (w : World) (hx : MatAt w a x) (hs : isSq x = true) {R : Int × Int} (hb : bestO x x.length = some R) :
    Calls Try.prog 67 #[.slice a x.length ca] w fun e w' => e = .returned (.tuple #[.agg #[.int .i64 (R).1, .int .i64 (R).2], .bool true]) ∧ Ext w w' := by
  have := cycleMean_c a ca x w hx hs
  rw [hb] at this
  exact this
theorem l06Code_c (a : Option Addr) (ca : Nat) (x : List (List Int)) (w : World) (hx : MatAt w a x) :
    Calls Try.prog 69 #[.slice a x.length ca] w fun e w' => e = .returned (.int .i64 (codeV x)) ∧ Ext w w' := by
  cases hs : isSq x
  · have e : codeV x = 1 := by simp [codeV, hs]
    rw [e]; clear e
    go_enter Try.func69, Try.ntmps69
    go_wp2_with fail
    refine (asB hs (l02Square_c _ _ _ _ hx)).mono ?_
    rintro e w1 ⟨rfl, E1⟩
    go_wp2
    go_ret
    exact ⟨rfl, E1.ext⟩
  cases hb : bestO x x.length with
  | none =>
    have e : codeV x = 4 := by simp [codeV, hs, hb]
    rw [e]; clear e
    have HW := Lib.hid (fun w' (h : Ext w w') => l04Best_none a ca x w' (hx.mono h) hs hb)
    clear hb
    go_enter Try.func69, Try.ntmps69
    go_wp2_with fail
    refine (asB hs (l02Square_c _ _ _ _ hx)).mono ?_
    rintro e w1 ⟨rfl, E1⟩
    go_wp2_with fail
    refine (HW.out _ E1.ext).mono ?_
    rintro e w2 ⟨b, c, n, rfl, E2⟩
    go_wp2
    go_ret
    exact ⟨rfl, E1.ext.trans E2⟩
  | some R =>
    have e : codeV x = 0 := by simp [codeV, hs, hb]
    rw [e]; clear e
    have HW := Lib.hid (fun w' (h : Ext w w') => l04Best_some a ca x w' (hx.mono h) hs hb)
    clear hb
    go_enter Try.func69, Try.ntmps69
    go_wp2_with fail
    refine (asB hs (l02Square_c _ _ _ _ hx)).mono ?_
    rintro e w1 ⟨rfl, E1⟩
    go_wp2_with fail
    refine (HW.out _ E1.ext).mono ?_
    rintro e w2 ⟨b, c, out, rfl, -, -, -, E2⟩
    go_wp2
    go_ret
    exact ⟨rfl, E1.ext.trans E2⟩

set_option maxHeartbeats 1000000 in
theorem implCritC_c {B : Nat} (a b : Option Addr) (ca cb : Nat) (x : List (List Int)) (xs : List Int) (w : World) (hx : MatAt w a x) (hy : OwnI w B (.slice b xs.length cb) xs) (hl : xs.length ≤ 1048576) :
    Calls Try.prog 23 #[.slice a x.length ca, .slice b xs.length cb] w fun e w' => e = .returned (.tuple #[.bool (critCV x xs).1, .int .i64 (critCV x xs).2]) ∧ Ext w w' := by
  have HX := Lib.hid (And.intro hx hy)
  have hyl := hy.ints.len
  clear hx hy
  cases hs : isSq x
  · have e : critCV x xs = (false, 1) := by simp [critCV, hs]
    rw [e]; clear e
    go_enter Try.func23, Try.ntmps23
    go_wp2_with fail
    refine (asB hs (isSquare_c _ _ _ _ HX.out.1)).mono ?_
    rintro e w1 ⟨rfl, E1⟩
    go_wp2
    go_ret2
    exact ⟨rfl, E1⟩
  cases hb : bestO x x.length with
  | none =>
    have e : critCV x xs = (false, 4) := by simp [critCV, hs, hb]
    rw [e]; clear e
    have HM := Lib.hid (fun w' (h : Ext w w') => cycleMean_none a ca x w' (HX.out.1.mono h) hs hb)
    clear hb
    go_enter Try.func23, Try.ntmps23
    go_wp2_with fail
    refine (asB hs (isSquare_c _ _ _ _ HX.out.1)).mono ?_
    rintro e w1 ⟨rfl, E1⟩
    go_wp2_with fail
    refine (HM.out _ E1).mono ?_
    rintro e w2 ⟨rfl, E2⟩
    obtain ⟨W3, hW3, HC, HC2, hs4, hE4, hE5⟩ := box_putE w2 (.int .i64 0) (.int .i64 0) 25
    obtain ⟨q0, q1, p0, p1⟩ := HC
    have hEE := (E1.trans E2).trans hE5
    clear HC2
    go_wp2
    go_ret2
    exact ⟨rfl, hEE⟩
  | some M =>
    have e : critCV x xs = (critCO xs.length M (cycleO x xs), 0) := by simp [critCV, hs, hb]
    rw [e]; clear e
    have HM := Lib.hid (fun w' (h : Ext w w') => cycleMean_some a ca x w' (HX.out.1.mono h) hs hb)
    have HW := Lib.hid (fun w' (h : Ext w w') => cycleWeight_c a b ca cb x xs w' (HX.out.1.mono h) hs (HX.out.2.ext h) hl)
    clear hb
    cases hw : cycleO x xs with
    | none =>
      rw [hw] at HW
      have e : critCO xs.length M none = false := rfl
      rw [e]; clear e

      go_enter Try.func23, Try.ntmps23
      go_wp2_with fail
      refine (asB hs (isSquare_c _ _ _ _ HX.out.1)).mono ?_
      rintro e w1 ⟨rfl, E1⟩
      go_wp2_with fail
      refine (HM.out _ E1).mono ?_
      rintro e w2 ⟨rfl, E2⟩
      obtain ⟨W3, hW3, HC, HC2, hs4, hE4, hE5⟩ := box_putE w2 (.int .i64 M.1) (.int .i64 M.2) 25
      obtain ⟨q0, q1, p0, p1⟩ := HC
      obtain ⟨c0, c1, -, -⟩ := HC2
      have EE := (E1.trans E2).trans hE5
      go_wp2_with fail
      refine (HW.out _ EE).mono ?_
      rintro e w4 ⟨rfl, rfl⟩
      simp only [Option.getD_none, Option.isSome_none]
      go_wp2_with fail
      go_big_quiet (fail)
      go_wp2
      go_ret2
      exact ⟨rfl, EE.drewN _⟩
    | some t =>
      rw [hw] at HW
      obtain ⟨hpos, hb3, hb4⟩ := cycleO_bd hs hw
      have hbt : -1048576000000 ≤ t ∧ t ≤ 1048576000000 := by omega
      have e : critCO xs.length M (some t) = decide (ratOf t xs.length = M) := rfl
      rw [e]; clear e hb3 hb4
      have hrat := fun w' => ratioOf_c t xs.length w' (by omega) (by omega) (by omega)
      generalize ratOf t xs.length = R at *
      have HR := Lib.hid hrat
      clear hrat
      by_cases h1 : R.1 = M.1
      case neg =>
        have hq1 : (R.1 == M.1) = false := by simpa using h1
        rw [show decide (R = M) = false from decide_eq_false (by rintro rfl; exact h1 rfl)]
        clear h1
        go_enter Try.func23, Try.ntmps23
        go_wp2_with fail
        refine (asB hs (isSquare_c _ _ _ _ HX.out.1)).mono ?_
        rintro e w1 ⟨rfl, E1⟩
        go_wp2_with fail
        refine (HM.out _ E1).mono ?_
        rintro e w2 ⟨rfl, E2⟩
        obtain ⟨W3, hW3, HC, HC2, hs4, hE4, hE5⟩ := box_putE w2 (.int .i64 M.1) (.int .i64 M.2) 25
        obtain ⟨q0, q1, p0, p1⟩ := HC
        obtain ⟨c0, c1, -, -⟩ := HC2
        have EE := (E1.trans E2).trans hE5
        go_wp2_with fail
        refine (HW.out _ EE).mono ?_
        rintro e w4 ⟨rfl, rfl⟩
        simp only [Option.getD_some, Option.isSome_some]
        generalize hWx : (W3.setCell ⟨w2.heap.size, 0, none⟩ (.int .i64 M.1)).setCell ⟨w2.heap.size, 1, none⟩ (.int .i64 M.2) = Wx at *
        go_wp2_with fail
        go_region_held3 (fun w' => Ext Wx w' ∧ w'.cell? ⟨w2.heap.size, 0, none⟩ = some (.int .i64 M.1) ∧ w'.cell? ⟨w2.heap.size, 1, none⟩ = some (.int .i64 M.2))
          ((refine keepQ c0 c1 ?_; (first | exact Ext.refl _ | exact (Ext.refl _).drew | exact Ext.trans ((Ext.refl _).drew) hEx | exact Ext.trans (And.left ‹_›) hEx)))
          (first | (go_at_call 71; refine (HR.out _).mono ?_; rintro e w5 ⟨rfl, hEx⟩))
        rename_i hH
        go_wp2
        go_ret2
        exact ⟨rfl, EE.trans hH.1⟩
      have hq1 : (R.1 == M.1) = true := by simpa using h1
      by_cases h2 : R.2 = M.2
      case neg =>
        have hq2 : (R.2 == M.2) = false := by simpa using h2
        rw [show decide (R = M) = false from decide_eq_false (by rintro rfl; exact h2 rfl)]
        clear h1 h2
        go_enter Try.func23, Try.ntmps23
        go_wp2_with fail
        refine (asB hs (isSquare_c _ _ _ _ HX.out.1)).mono ?_
        rintro e w1 ⟨rfl, E1⟩
        go_wp2_with fail
        refine (HM.out _ E1).mono ?_
        rintro e w2 ⟨rfl, E2⟩
        obtain ⟨W3, hW3, HC, HC2, hs4, hE4, hE5⟩ := box_putE w2 (.int .i64 M.1) (.int .i64 M.2) 25
        obtain ⟨q0, q1, p0, p1⟩ := HC
        obtain ⟨c0, c1, -, -⟩ := HC2
        have EE := (E1.trans E2).trans hE5
        go_wp2_with fail
        refine (HW.out _ EE).mono ?_
        rintro e w4 ⟨rfl, rfl⟩
        simp only [Option.getD_some, Option.isSome_some]
        generalize hWx : (W3.setCell ⟨w2.heap.size, 0, none⟩ (.int .i64 M.1)).setCell ⟨w2.heap.size, 1, none⟩ (.int .i64 M.2) = Wx at *
        go_wp2_with fail
        go_region_held3 (fun w' => Ext Wx w' ∧ w'.cell? ⟨w2.heap.size, 0, none⟩ = some (.int .i64 M.1) ∧ w'.cell? ⟨w2.heap.size, 1, none⟩ = some (.int .i64 M.2))
          ((refine keepQ c0 c1 ?_; (first | exact Ext.refl _ | exact (Ext.refl _).drew | exact Ext.trans ((Ext.refl _).drew) hEx | exact Ext.trans (And.left ‹_›) hEx)))
          (first | (go_at_call 71; refine (HR.out _).mono ?_; rintro e w5 ⟨rfl, hEx⟩))
        rename_i hH
        go_wp2
        go_ret2
        exact ⟨rfl, EE.trans hH.1⟩
      have hq2 : (R.2 == M.2) = true := by simpa using h2
      rw [show decide (R = M) = true from decide_eq_true (Prod.ext h1 h2)]
      clear h1 h2
      go_enter Try.func23, Try.ntmps23
      go_wp2_with fail
      refine (asB hs (isSquare_c _ _ _ _ HX.out.1)).mono ?_
      rintro e w1 ⟨rfl, E1⟩
      go_wp2_with fail
      refine (HM.out _ E1).mono ?_
      rintro e w2 ⟨rfl, E2⟩
      obtain ⟨W3, hW3, HC, HC2, hs4, hE4, hE5⟩ := box_putE w2 (.int .i64 M.1) (.int .i64 M.2) 25
      obtain ⟨q0, q1, p0, p1⟩ := HC
      obtain ⟨c0, c1, -, -⟩ := HC2
      have EE := (E1.trans E2).trans hE5
      go_wp2_with fail
      refine (HW.out _ EE).mono ?_
      rintro e w4 ⟨rfl, rfl⟩
      simp only [Option.getD_some, Option.isSome_some]
      generalize hWx : (W3.setCell ⟨w2.heap.size, 0, none⟩ (.int .i64 M.1)).setCell ⟨w2.heap.size, 1, none⟩ (.int .i64 M.2) = Wx at *
      go_wp2_with fail
      go_region_held3 (fun w' => Ext Wx w' ∧ w'.cell? ⟨w2.heap.size, 0, none⟩ = some (.int .i64 M.1) ∧ w'.cell? ⟨w2.heap.size, 1, none⟩ = some (.int .i64 M.2))
        ((refine keepQ c0 c1 ?_; (first | exact Ext.refl _ | exact (Ext.refl _).drew | exact Ext.trans ((Ext.refl _).drew) hEx | exact Ext.trans (And.left ‹_›) hEx)))
        (first | (go_at_call 71; refine (HR.out _).mono ?_; rintro e w5 ⟨rfl, hEx⟩))
      rename_i hH
      go_wp2
      go_ret2
      exact ⟨rfl, EE.trans hH.1⟩
set_option maxHeartbeats 1000000 in
theorem specCritC_c {B : Nat} (a b : Option Addr) (ca cb : Nat) (x : List (List Int)) (xs : List Int) (w : World) (hx : MatAt w a x) (hy : OwnI w B (.slice b xs.length cb) xs) (hl : xs.length ≤ 1048576) :
    Calls Try.prog 21 #[.slice a x.length ca, .slice b xs.length cb] w fun e w' => e = .returned (.tuple #[.bool (critCV x xs).1, .int .i64 (critCV x xs).2]) ∧ Ext w w' := by
  have HX := Lib.hid (And.intro hx hy)
  have hyl := hy.ints.len
  have HC0 := Lib.hid (fun w' (h : Ext w w') => l06Code_c a ca x w' (hx.mono h))
  clear hx hy
  cases hs : isSq x
  · have e : critCV x xs = (false, 1) := by simp [critCV, hs]
    rw [e]; clear e
    have e : codeV x = 1 := by simp [codeV, hs]
    rw [e] at HC0
    clear e hs
    go_enter Try.func21, Try.ntmps21
    go_wp2_with fail
    refine (HC0.out _ (Ext.refl _)).mono ?_
    rintro e w1 ⟨rfl, E1⟩
    go_wp2
    go_ret2
    exact ⟨rfl, E1⟩
  cases hb : bestO x x.length with
  | none =>
    have e : critCV x xs = (false, 4) := by simp [critCV, hs, hb]
    rw [e]; clear e
    have e : codeV x = 4 := by simp [codeV, hs, hb]
    rw [e] at HC0
    clear e hs hb
    go_enter Try.func21, Try.ntmps21
    go_wp2_with fail
    refine (HC0.out _ (Ext.refl _)).mono ?_
    rintro e w1 ⟨rfl, E1⟩
    go_wp2
    go_ret2
    exact ⟨rfl, E1⟩
  | some M =>
    have e : critCV x xs = (critCO xs.length M (cycleO x xs), 0) := by simp [critCV, hs, hb]
    rw [e]; clear e
    have e : codeV x = 0 := by simp [codeV, hs, hb]
    rw [e] at HC0
    have HCd := HC0
    have HBt := Lib.hid (fun w' (h : Ext w w') => l04Best_some a ca x w' (HX.out.1.mono h) hs hb)
    have HMn := Lib.hid (fun (B : Nat) (b : Option Addr) (cb : Nat) xs w' (h : Ext w w') hy hl hr => l04Mean_of (B := B) a b ca cb x xs w' (HX.out.1.mono h) hy hl hs (R := M) hr)
    have HW := Lib.hid (fun w' (h : Ext w w') => l04Mean_c a b ca cb x xs w' (HX.out.1.mono h) (HX.out.2.ext h) hl hs)
    clear hb e HC0
    cases hw : cycleO x xs with
    | none =>
      rw [hw] at HW
      simp only [Option.map_none, Option.getD_none, Option.isSome_none] at HW
      have e : critCO xs.length M none = false := rfl
      rw [e]; clear e hw hs
      go_enter Try.func21, Try.ntmps21
      go_wp2_with fail
      refine (HCd.out _ (Ext.refl _)).mono ?_
      rintro e w1 ⟨rfl, E1⟩
      go_wp2_with fail
      refine (HBt.out _ E1).mono ?_
      rintro e w2 ⟨b2, c2, out, rfl, hO, hol, hcy, E2⟩
      have EE := E1.trans E2
      go_wp2_with fail
      refine (HMn.out _ b2 c2 out _ EE hO hol hcy).mono ?_
      rintro e w3 ⟨rfl, E3⟩
      obtain ⟨W3, hW3, HC, HC2, hs4, hE4, hE5⟩ := box_putE w3 (.int .i64 M.1) (.int .i64 M.2) 25
      obtain ⟨q0, q1, p0, p1⟩ := HC
      obtain ⟨c0, c1, -, -⟩ := HC2
      replace EE := (EE.trans E3).trans hE5
      clear hO hcy
      generalize hWx : (W3.setCell ⟨w3.heap.size, 0, none⟩ (.int .i64 M.1)).setCell ⟨w3.heap.size, 1, none⟩ (.int .i64 M.2) = Wx at *
      go_wp2_with fail
      refine (HW.out _ EE).mono ?_
      rintro e w4 ⟨rfl, E4⟩
      replace c0 := E4.cell c0
      replace c1 := E4.cell c1
      obtain ⟨W5, hW5, HD, HD2, hs5, hE6, hE7⟩ := box_putE w4 (.int .i64 0) (.int .i64 0) 25
      obtain ⟨y0, y1, z0, z1⟩ := HD
      obtain ⟨d0, d1, -, -⟩ := HD2
      replace c0 := hE7.cell c0
      replace c1 := hE7.cell c1
      replace EE := (EE.trans E4).trans hE7
      go_wp2
      go_ret2
      exact ⟨rfl, EE⟩
    | some t =>
      rw [hw] at HW
      simp only [Option.map_some, Option.getD_some, Option.isSome_some] at HW
      have e : critCO xs.length M (some t) = decide (ratOf t xs.length = M) := rfl
      rw [e]; clear e hw hs
      generalize ratOf t xs.length = R at *
      by_cases h1 : R.1 = M.1
      case neg =>
        have hq1 : (R.1 == M.1) = false := by simpa using h1
        rw [show decide (R = M) = false from decide_eq_false (by rintro rfl; exact h1 rfl)]
        clear h1
        go_enter Try.func21, Try.ntmps21
        go_wp2_with fail
        refine (HCd.out _ (Ext.refl _)).mono ?_
        rintro e w1 ⟨rfl, E1⟩
        go_wp2_with fail
        refine (HBt.out _ E1).mono ?_
        rintro e w2 ⟨b2, c2, out, rfl, hO, hol, hcy, E2⟩
        have EE := E1.trans E2
        go_wp2_with fail
        refine (HMn.out _ b2 c2 out _ EE hO hol hcy).mono ?_
        rintro e w3 ⟨rfl, E3⟩
        obtain ⟨W3, hW3, HC, HC2, hs4, hE4, hE5⟩ := box_putE w3 (.int .i64 M.1) (.int .i64 M.2) 25
        obtain ⟨q0, q1, p0, p1⟩ := HC
        obtain ⟨c0, c1, -, -⟩ := HC2
        replace EE := (EE.trans E3).trans hE5
        clear hO hcy
        generalize hWx : (W3.setCell ⟨w3.heap.size, 0, none⟩ (.int .i64 M.1)).setCell ⟨w3.heap.size, 1, none⟩ (.int .i64 M.2) = Wx at *
        go_wp2_with fail
        refine (HW.out _ EE).mono ?_
        rintro e w4 ⟨rfl, E4⟩
        replace c0 := E4.cell c0
        replace c1 := E4.cell c1
        obtain ⟨W5, hW5, HD, HD2, hs5, hE6, hE7⟩ := box_putE w4 (.int .i64 R.1) (.int .i64 R.2) 25
        obtain ⟨y0, y1, z0, z1⟩ := HD
        obtain ⟨d0, d1, -, -⟩ := HD2
        replace c0 := hE7.cell c0
        replace c1 := hE7.cell c1
        replace EE := (EE.trans E4).trans hE7
        go_wp2
        go_ret2
        exact ⟨rfl, EE⟩
      have hq1 : (R.1 == M.1) = true := by simpa using h1
      by_cases h2 : R.2 = M.2
      case neg =>
        have hq2 : (R.2 == M.2) = false := by simpa using h2
        rw [show decide (R = M) = false from decide_eq_false (by rintro rfl; exact h2 rfl)]
        clear h1 h2
        go_enter Try.func21, Try.ntmps21
        go_wp2_with fail
        refine (HCd.out _ (Ext.refl _)).mono ?_
        rintro e w1 ⟨rfl, E1⟩
        go_wp2_with fail
        refine (HBt.out _ E1).mono ?_
        rintro e w2 ⟨b2, c2, out, rfl, hO, hol, hcy, E2⟩
        have EE := E1.trans E2
        go_wp2_with fail
        refine (HMn.out _ b2 c2 out _ EE hO hol hcy).mono ?_
        rintro e w3 ⟨rfl, E3⟩
        obtain ⟨W3, hW3, HC, HC2, hs4, hE4, hE5⟩ := box_putE w3 (.int .i64 M.1) (.int .i64 M.2) 25
        obtain ⟨q0, q1, p0, p1⟩ := HC
        obtain ⟨c0, c1, -, -⟩ := HC2
        replace EE := (EE.trans E3).trans hE5
        clear hO hcy
        generalize hWx : (W3.setCell ⟨w3.heap.size, 0, none⟩ (.int .i64 M.1)).setCell ⟨w3.heap.size, 1, none⟩ (.int .i64 M.2) = Wx at *
        go_wp2_with fail
        refine (HW.out _ EE).mono ?_
        rintro e w4 ⟨rfl, E4⟩
        replace c0 := E4.cell c0
        replace c1 := E4.cell c1
        obtain ⟨W5, hW5, HD, HD2, hs5, hE6, hE7⟩ := box_putE w4 (.int .i64 R.1) (.int .i64 R.2) 25
        obtain ⟨y0, y1, z0, z1⟩ := HD
        obtain ⟨d0, d1, -, -⟩ := HD2
        replace c0 := hE7.cell c0
        replace c1 := hE7.cell c1
        replace EE := (EE.trans E4).trans hE7
        go_wp2
        go_ret2
        exact ⟨rfl, EE⟩
      have hq2 : (R.2 == M.2) = true := by simpa using h2
      rw [show decide (R = M) = true from decide_eq_true (Prod.ext h1 h2)]
      clear h1 h2
      go_enter Try.func21, Try.ntmps21
      go_wp2_with fail
      refine (HCd.out _ (Ext.refl _)).mono ?_
      rintro e w1 ⟨rfl, E1⟩
      go_wp2_with fail
      refine (HBt.out _ E1).mono ?_
      rintro e w2 ⟨b2, c2, out, rfl, hO, hol, hcy, E2⟩
      have EE := E1.trans E2
      go_wp2_with fail
      refine (HMn.out _ b2 c2 out _ EE hO hol hcy).mono ?_
      rintro e w3 ⟨rfl, E3⟩
      obtain ⟨W3, hW3, HC, HC2, hs4, hE4, hE5⟩ := box_putE w3 (.int .i64 M.1) (.int .i64 M.2) 25
      obtain ⟨q0, q1, p0, p1⟩ := HC
      obtain ⟨c0, c1, -, -⟩ := HC2
      replace EE := (EE.trans E3).trans hE5
      clear hO hcy
      generalize hWx : (W3.setCell ⟨w3.heap.size, 0, none⟩ (.int .i64 M.1)).setCell ⟨w3.heap.size, 1, none⟩ (.int .i64 M.2) = Wx at *
      go_wp2_with fail
      refine (HW.out _ EE).mono ?_
      rintro e w4 ⟨rfl, E4⟩
      replace c0 := E4.cell c0
      replace c1 := E4.cell c1
      obtain ⟨W5, hW5, HD, HD2, hs5, hE6, hE7⟩ := box_putE w4 (.int .i64 R.1) (.int .i64 R.2) 25
      obtain ⟨y0, y1, z0, z1⟩ := HD
      obtain ⟨d0, d1, -, -⟩ := HD2
      replace c0 := hE7.cell c0
      replace c1 := hE7.cell c1
      replace EE := (EE.trans E4).trans hE7
      go_wp2
      go_ret2
      exact ⟨rfl, EE⟩

set_option maxHeartbeats 1000000 in
theorem critF_c (n bb bs ba : Nat) (b s a : Option Addr) (cb cs ca : Nat) (y st x : List (List Int)) (i j : Nat) (w : World) (h1 : w.cell? ⟨bb, 0, none⟩ = some (.slice b y.length cb)) (h2 : w.cell? ⟨bs, 0, none⟩ = some (.slice s st.length cs)) (h3 : w.cell? ⟨ba, 0, none⟩ = some (.slice a x.length ca))
    (hy : MatAt w b y) (hst : MatAt w s st) (hx : MatAt w a x) (ry : Rect y n n) (rs : Rect st n n) (rx : Rect x n n) (hi : i < n) (hj : j < n) (by1 : EBd 1000000000000000 y) (bs1 : EBd 1000000000000000 st) :
    Calls Try.prog 158 #[.int .i64 (i : Int), .int .i64 (j : Int), .pointer (some ⟨bb, 0, none⟩), .pointer (some ⟨bs, 0, none⟩), .pointer (some ⟨ba, 0, none⟩)] w fun e w' => e = .returned (.int .i64 (if keepB y st i j then ent x i j else -1000000000000000)) ∧ Qt w w' := by
  have ly := ry.1
  have ls := rs.1
  have lx := rx.1
  obtain ⟨p, o, rfl⟩ := hy.base (by omega)
  obtain ⟨p', o', rfl⟩ := hst.base (by omega)
  obtain ⟨p2, o2, rfl⟩ := hx.base (by omega)
  obtain ⟨q, r, c, d1, dd, -⟩ := hy.hdr ry hi (by omega)
  have d2 := dd j hj
  obtain ⟨q', r', c', e1, ee, -⟩ := hst.hdr rs hj (by omega)
  have e2 := ee i hi
  obtain ⟨q2, r2, c2, f1, ff, -⟩ := hx.hdr rx hi (by omega)
  have f2 := ff j hj
  have nl := hy.len
  rw [ly] at h1 nl
  rw [ls] at h2
  rw [lx] at h3
  have b1 := by1 i j
  have b2 := bs1 j i
  unfold keepB
  clear dd ee ff hy hst hx ry rs rx by1 bs1 ly ls lx
  generalize ent y i j = u at *
  generalize ent st j i = v at *
  generalize ent x i j = z at *
  by_cases s1 : u = -1000000000000000
  · rw [s1] at d2
    rw [show (!(u == -1000000000000000) && !(v == -1000000000000000) && (u + v == 0)) = false by simp [s1]]
    clear s1
    go_enter Try.func158, Try.ntmps158
    go_wp2_with fail
    go_big_quiet (fail)
    go_wp2
    go_ret
    exact ⟨rfl, (Qt.refl _).drewN _⟩
  have q1 : (u == -1000000000000000) = false := by simpa using s1
  by_cases s2 : v = -1000000000000000
  · rw [s2] at e2
    rw [show (!(u == -1000000000000000) && !(v == -1000000000000000) && (u + v == 0)) = false by simp [s2]]
    clear s1 s2
    go_enter Try.func158, Try.ntmps158
    go_wp2_with fail
    go_big_quiet (fail)
    go_wp2
    go_ret
    exact ⟨rfl, (Qt.refl _).drewN _⟩
  have q2 : (v == -1000000000000000) = false := by simpa using s2
  have hw1 : IntKind.i64.wrap (u + v) = u + v := IntWalk.i64_in _ (by omega)
  by_cases s3 : u + v = 0
  · have q3 : (u + v != 0) = false := by simpa using s3
    rw [show (!(u == -1000000000000000) && !(v == -1000000000000000) && (u + v == 0)) = true by simp [s1, s2, s3], if_pos rfl]
    clear s1 s2 s3
    go_enter Try.func158, Try.ntmps158
    go_wp2_with fail
    go_big_quiet (fail)
    go_wp2
    go_ret
    exact ⟨rfl, (Qt.refl _).drewN _⟩
  · have q3 : (u + v != 0) = true := by simpa using s3
    rw [show (!(u == -1000000000000000) && !(v == -1000000000000000) && (u + v == 0)) = false by simp [s3]]
    clear s1 s2 s3
    go_enter Try.func158, Try.ntmps158
    go_wp2_with fail
    go_big_quiet (fail)
    go_wp2
    go_ret
    exact ⟨rfl, (Qt.refl _).drewN _⟩
theorem critF_enter (args : Array Value) (w : World) : Sem.run Try.prog (callFunc 158 args) w = .ok (.enter 158 args) w := by
  simp [callFunc, Try.func158, Try.f158]
set_option maxHeartbeats 1000000 in
theorem criticalMatrix_c (a : Option Addr) (ca : Nat) (x : List (List Int)) (R : Int × Int) (w : World) (hx : MatAt w a x) (hs : isSq x = true) (hb : bestO x x.length = some R) :
    Calls Try.prog 126 #[.slice a x.length ca, .agg #[.int .i64 (R).1, .int .i64 (R).2]] w (GivesM w (critM x R)) := by
  obtain ⟨rx, hl1, hl2⟩ := isSq_rect hs
  obtain ⟨⟨b1, b2⟩, hN, _⟩ := best_facts hs hb
  have b2' : -1000000 ≤ R.2 ∧ R.2 ≤ 1000000 := by omega
  have hA := shift_abdW hs b1 b2'
  have hB := best_star hs hb
  have hYO := YOk.of_shift hs b1 b2'
  have hye : EBd 1000000000000000 (shiftM x R.1 R.2) := fun i j => by
    by_cases e : ent (shiftM x R.1 R.2) i j = -1000000000000000
    · rw [e]; omega
    · have := hYO.bd i j e; omega
  have hse : EBd 1000000000000000 (starM (shiftM x R.1 R.2) x.length) := starM_ebd hA hB
  have hyl : (shiftM x R.1 R.2).length = x.length := mkMat_len _ _ _
  have hsl : (starM (shiftM x R.1 R.2) x.length).length = x.length := mkMat_len _ _ _
  have hstar := fun (a : Option Addr) (ca : Nat) w' (h : MatAt w' a (shiftM x R.1 R.2)) => starOf_c a ca (shiftM x R.1 R.2) x.length 2000000000000 w' h hYO.rect hl1 hl2 hA
  rw [hyl] at hstar
  obtain ⟨W1, hW1⟩ : ∃ W, w.alloc (.cells #[.slice a x.length ca] 22) = W := ⟨_, rfl⟩
  have hE1 : Ext w W1 := by rw [← hW1]; exact (Ext.refl w).alloc _
  have hb1 : W1.cell? ⟨w.heap.size, 0, none⟩ = some (.slice a x.length ca) := by rw [← hW1]; simp
  obtain ⟨W, hW, HB, hs2, hE2⟩ := alloc2_facts W1 (.int .i64 R.1) (.int .i64 R.2) 25
  obtain ⟨r0, r1, -, -⟩ := HB
  replace hb1 := hE2.cell hb1
  have hE := hE1.trans hE2
  have HX := Lib.hid (And.intro hx (And.intro rx (And.intro hs (And.intro b1 b2'))))
  have HS := Lib.hid hstar
  have HF := Lib.hid (And.intro hB (And.intro hye (And.intro hse (And.intro hYO.rect (And.intro (starM_rect (shiftM x R.1 R.2) x.length) (And.intro hyl hsl))))))
  clear hx rx hE1 hE2 hN hA hB hYO hye hse hstar hs hb b1 b2 b2'
  go_enter Try.func126, Try.ntmps126
  go_wp2_with fail
  refine (shifted_cW _ _ _ _ _ _ (HX.out.1.mono hE) HX.out.2.2.1 HX.out.2.2.2.1 HX.out.2.2.2.2).mono ?_
  rintro e w2 ⟨a2, c2, rfl, hO2, E2⟩
  rw [HF.out.2.2.2.2.2.1]
  replace hb1 := E2.cell hb1
  obtain ⟨W3, hW3, k0, k1, k2, hE3, hE4⟩ := box_putS w2 (.slice none 0 0) (.slice a2 x.length c2) 22
  replace hb1 := hE4.cell hb1
  have hEE := (hE.trans E2).trans hE4
  have hM2 := Lib.hid (hO2.mat.mono hE4)
  clear hO2
  go_wp2_with fail
  refine (HS.out _ _ _ hM2.out).mono ?_
  rintro e w5 ⟨E5, h5, -⟩
  obtain ⟨a5, c5, rfl, hO5⟩ := h5 HF.out.1
  replace hb1 := E5.cell hb1
  replace k2 := E5.cell k2
  have hM5 := Lib.hid (hM2.out.mono E5)
  obtain ⟨W6, hW6, l0, l1, l2, hE6, hE7⟩ := box_putS w5 (.slice none 0 0) (.slice a5 x.length c5) 22
  replace hb1 := hE7.cell hb1
  replace k2 := hE7.cell k2
  have hEf := (hEE.trans E5).trans hE7
  have hMs := Lib.hid (hO5.mat.mono hE7)
  have hMy := Lib.hid (hM5.out.mono hE7)
  clear hO5 h5
  have H := Lib.hid (fun (W' : World) (hq : Ext ((W6.setCell ⟨w5.heap.size, 0, none⟩ (.slice a5 x.length c5))) W') => matrixBy_c 158 #[.pointer (some ⟨w2.heap.size, 0, none⟩), .pointer (some ⟨w5.heap.size, 0, none⟩), .pointer (some ⟨w.heap.size, 0, none⟩)] x.length x.length (critE x R) W' (by omega) (by omega) critF_enter
    (fun i j w' hi hj hE' => critF_c x.length w2.heap.size w5.heap.size w.heap.size a2 a5 a c2 c5 ca (shiftM x R.1 R.2) (starM (shiftM x R.1 R.2) x.length) x i j w' (by rw [HF.out.2.2.2.2.2.1]; exact hE'.cell (hq.cell k2)) (by rw [HF.out.2.2.2.2.2.2]; exact hE'.cell (hq.cell l2)) (hE'.cell (hq.cell hb1))
      ((hMy.out.mono hq).mono hE') ((hMs.out.mono hq).mono hE') (((HX.out.1.mono hEf).mono hq).mono hE') HF.out.2.2.2.1 HF.out.2.2.2.2.1 HX.out.2.1 hi hj HF.out.2.1 HF.out.2.2.1))
  have hxl := HX.out.1.len
  go_wp2_with fail
  refine (H.out _ (Ext.refl _)).mono ?_
  rintro e w' ⟨a', cap', rfl, h1, h2⟩
  go_wp2
  go_ret
  exact ⟨a', cap', rfl, h1.mono hEf.size, hEf.trans h2⟩
theorem criticalOf_c (a : Option Addr) (ca : Nat) (x : List (List Int)) (w : World) (hx : MatAt w a x) : Calls Try.prog 80 #[.slice a x.length ca] w (GivesM2 w (critV x).1 (critV x).2) := by
  have HX := Lib.hid hx
  clear hx
  cases hs : isSq x
  · have e : critV x = ([], 1) := by simp [critV, hs]
    rw [e]; clear e
    go_enter Try.func80, Try.ntmps80
    go_wp2_with fail
    refine (asB hs (isSquare_c _ _ _ _ HX.out)).mono ?_
    rintro e w1 ⟨rfl, E1⟩
    go_wp2
    go_ret2
    exact ⟨none, 0, rfl, .inl ⟨rfl, rfl⟩, E1⟩
  cases hb : bestO x x.length with
  | none =>
    have e : critV x = ([], 4) := by simp [critV, hs, hb]
    rw [e]; clear e
    have HM := Lib.hid (fun w' (h : Ext w w') => cycleMean_none a ca x w' (HX.out.mono h) hs hb)
    clear hb
    go_enter Try.func80, Try.ntmps80
    go_wp2_with fail
    refine (asB hs (isSquare_c _ _ _ _ HX.out)).mono ?_
    rintro e w1 ⟨rfl, E1⟩
    go_wp2_with fail
    refine (HM.out _ E1).mono ?_
    rintro e w2 ⟨rfl, E2⟩
    obtain ⟨W3, hW3, HC, HC2, hs4, hE4, hE5⟩ := box_putE w2 (.int .i64 0) (.int .i64 0) 25
    obtain ⟨q0, q1, p0, p1⟩ := HC
    have hEE := (E1.trans E2).trans hE5
    clear HC2
    go_wp2
    go_ret2
    exact ⟨none, 0, rfl, .inl ⟨rfl, rfl⟩, hEE⟩
  | some R =>
    have e : critV x = (critM x R, 0) := by simp [critV, hs, hb]
    rw [e]; clear e
    have HM := Lib.hid (fun w' (h : Ext w w') => cycleMean_some a ca x w' (HX.out.mono h) hs hb)
    have HC := Lib.hid (fun w' (h : Ext w w') => criticalMatrix_c a ca x R w' (HX.out.mono h) hs hb)
    clear hb
    go_enter Try.func80, Try.ntmps80
    go_wp2_with fail
    refine (asB hs (isSquare_c _ _ _ _ HX.out)).mono ?_
    rintro e w1 ⟨rfl, E1⟩
    go_wp2_with fail
    refine (HM.out _ E1).mono ?_
    rintro e w2 ⟨rfl, E2⟩
    obtain ⟨W3, hW3, HB, HB2, hs4, hE4, hE5⟩ := box_putE w2 (.int .i64 R.1) (.int .i64 R.2) 25
    obtain ⟨q0, q1, p0, p1⟩ := HB
    obtain ⟨c0, c1, -, -⟩ := HB2
    have hEE := (E1.trans E2).trans hE5
    go_wp2_with fail
    refine (HC.out _ hEE).mono ?_
    rintro e w5 ⟨a5, c5, rfl, hO5, E5⟩
    go_wp2
    go_ret2
    exact ⟨a5, c5, rfl, hO5.mono hEE.size, hEE.trans E5⟩
theorem implCritM_c (a : Option Addr) (ca : Nat) (x : List (List Int)) (w : World) (hx : MatAt w a x) : Calls Try.prog 28 #[.slice a x.length ca] w (GivesM2 w (critV x).1 (critV x).2) := by
  have HX := Lib.hid hx
  clear hx
  obtain ⟨V, hV⟩ : ∃ V, critV x = V := ⟨_, rfl⟩
  rw [hV]
  have HV := Lib.hid hV
  clear hV
  go_enter Try.func28, Try.ntmps28
  go_wp2_with fail
  refine (criticalOf_c _ _ _ _ HX.out).mono ?_
  rw [HV.out]
  rintro e w1 ⟨a1, c1, rfl, hO, E1⟩
  go_wp2
  go_ret2
  exact ⟨a1, c1, rfl, hO, E1⟩
end Go.Proofs.Ytljchmkoafahgaa
