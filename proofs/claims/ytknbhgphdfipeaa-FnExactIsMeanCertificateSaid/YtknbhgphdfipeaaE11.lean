/- Contracts of IsMeanCertificate, the program's and the reference's. Condition: the length of the cycle's list. -/
import Derived.Test.YtknbhgphdfipeaaE10
namespace Go.Proofs.Ytknbhgphdfipeaa
set_option linter.unusedVariables false
set_option linter.unusedSimpArgs false
open Go.RowKit

theorem keepR1' {W w' : World} {p q : Addr} {x y : Value} (c0 : W.cell? p = some x) (c1 : W.cell? q = some y) (h : Ext W w') : Ext W w' ∧ w'.cell? p = some x ∧ w'.cell? q = some y := ⟨h, h.cell c0, h.cell c1⟩
def certO (num den : Int) (n : Nat) : Option Int → Bool
  | none => false
  | some t => decide (ratOf t n = (num, den))
def certV (x : List (List Int)) (r : Int × Int) (cyc xs : List Int) : Bool := isPotV x r xs && certO r.1 r.2 cyc.length (cycleO x cyc)

set_option maxHeartbeats 400000 in
theorem implCert_c {B : Nat} (a b c : Option Addr) (ca cb cc : Nat) (x : List (List Int)) (num den : Int) (cyc xs : List Int) (w : World) (hx : MatAt w a x) (hy : OwnI w B (.slice b cyc.length cb) cyc) (hl : cyc.length ≤ 1048576) (hz : IntsAt w c xs) :
    Calls Try.prog 45 #[.slice a x.length ca, .agg #[.int .i64 num, .int .i64 den], .slice b cyc.length cb, .slice c xs.length cc] w fun e w' => e = .returned (.bool (certV x (num, den) cyc xs)) ∧ Ext w w' := by
  obtain ⟨W, hW, HBx, hs2, hE0⟩ := alloc2_facts w (.int .i64 num) (.int .i64 den) 29
  obtain ⟨c0, c1, -, -⟩ := HBx
  have HX := Lib.hid (And.intro hx (And.intro hy hz))
  have hyl := hy.ints.len
  clear hx hz
  cases hs : isSq x
  · have e : certV x (num, den) cyc xs = false := by simp [certV, isPotV, hs]
    rw [e]; clear e
    go_enter Try.func45, Try.ntmps45
    go_wp2_with fail
    refine (asB hs (isSquare_c _ _ _ _ (HX.out.1.mono hE0))).mono ?_
    rintro e w1 ⟨rfl, E1⟩
    replace c0 := E1.cell c0
    replace c1 := E1.cell c1
    have EE := hE0.trans E1
    go_wp2
    go_ret
    exact ⟨rfl, EE⟩
  cases hr : isRat (num, den)
  · have e : certV x (num, den) cyc xs = false := by simp [certV, isPotV, hr]
    rw [e]; clear e
    go_enter Try.func45, Try.ntmps45
    go_wp2_with fail
    refine (asB hs (isSquare_c _ _ _ _ (HX.out.1.mono hE0))).mono ?_
    rintro e w1 ⟨rfl, E1⟩
    replace c0 := E1.cell c0
    replace c1 := E1.cell c1
    have EE := hE0.trans E1
    go_wp2_with fail
    refine (asB hr (isRatio_c _ _ _)).mono ?_
    rintro e w2 ⟨rfl, E2⟩
    replace c0 := E2.cell c0
    replace c1 := E2.cell c1
    replace EE := EE.trans E2
    go_wp2
    go_ret
    exact ⟨rfl, EE⟩
  obtain ⟨hb1, hb2⟩ := isRat_bd2 hr
  simp only at hb1 hb2
  have hd : -1000000 ≤ den ∧ den ≤ 1000000 := by omega
  cases hp : potL x num den xs
  · have e : certV x (num, den) cyc xs = false := by simp [certV, isPotV, hp]
    rw [e]; clear e
    go_enter Try.func45, Try.ntmps45
    go_wp2_with fail
    refine (asB hs (isSquare_c _ _ _ _ (HX.out.1.mono hE0))).mono ?_
    rintro e w1 ⟨rfl, E1⟩
    replace c0 := E1.cell c0
    replace c1 := E1.cell c1
    have EE := hE0.trans E1
    go_wp2_with fail
    refine (asB hr (isRatio_c _ _ _)).mono ?_
    rintro e w2 ⟨rfl, E2⟩
    replace c0 := E2.cell c0
    replace c1 := E2.cell c1
    replace EE := EE.trans E2
    go_wp2_with fail
    refine (asB hp (isPotential_c _ _ _ _ _ _ _ _ _ (HX.out.1.mono EE) hs (HX.out.2.2.mono EE) hb1 hd)).mono ?_
    rintro e w3 ⟨rfl, E3⟩
    replace c0 := E3.cell c0
    replace c1 := E3.cell c1
    replace EE := EE.trans E3
    go_wp2
    go_ret
    exact ⟨rfl, EE⟩
  have e : certV x (num, den) cyc xs = certO num den cyc.length (cycleO x cyc) := by simp [certV, isPotV, hs, hr, hp]
  rw [e]; clear e
  have HW := Lib.hid (fun w' (h : Ext w w') => cycleWeight_c a b ca cb x cyc w' (HX.out.1.mono h) hs (HX.out.2.1.ext h) hl)
  cases hw : cycleO x cyc with
  | none =>
    rw [hw] at HW
    have e : certO num den cyc.length none = false := rfl
    rw [e]; clear e
    go_enter Try.func45, Try.ntmps45
    go_wp2_with fail
    refine (asB hs (isSquare_c _ _ _ _ (HX.out.1.mono hE0))).mono ?_
    rintro e w1 ⟨rfl, E1⟩
    replace c0 := E1.cell c0
    replace c1 := E1.cell c1
    have EE := hE0.trans E1
    go_wp2_with fail
    refine (asB hr (isRatio_c _ _ _)).mono ?_
    rintro e w2 ⟨rfl, E2⟩
    replace c0 := E2.cell c0
    replace c1 := E2.cell c1
    replace EE := EE.trans E2
    go_wp2_with fail
    refine (asB hp (isPotential_c _ _ _ _ _ _ _ _ _ (HX.out.1.mono EE) hs (HX.out.2.2.mono EE) hb1 hd)).mono ?_
    rintro e w3 ⟨rfl, E3⟩
    replace c0 := E3.cell c0
    replace c1 := E3.cell c1
    replace EE := EE.trans E3
    go_wp2_with fail
    refine (HW.out _ EE).mono ?_
    rintro e w4 ⟨rfl, rfl⟩
    simp only [Option.getD_none, Option.isSome_none]
    go_wp2_with fail
    go_big_quiet (fail)
    go_wp2
    go_ret
    exact ⟨rfl, EE.drewN _⟩
  | some t =>
    rw [hw] at HW
    obtain ⟨hpos, hb3, hb4⟩ := cycleO_bd hs hw
    have hbt : -1048576000000 ≤ t ∧ t ≤ 1048576000000 := by omega
    have e : certO num den cyc.length (some t) = decide (ratOf t cyc.length = (num, den)) := rfl
    rw [e]; clear e hb3 hb4
    have hrat := fun w' => ratioOf_c t cyc.length w' (by omega) (by omega) (by omega)
    generalize ratOf t cyc.length = R at *
    have HR := Lib.hid hrat
    clear hrat
    by_cases h1 : R.1 = num
    case neg =>
      have hq1 : (R.1 == num) = false := by simpa using h1
      rw [show decide (R = (num, den)) = false from decide_eq_false (by rintro rfl; exact h1 rfl)]
      clear h1
      go_enter Try.func45, Try.ntmps45
      go_wp2_with fail
      refine (asB hs (isSquare_c _ _ _ _ (HX.out.1.mono hE0))).mono ?_
      rintro e w1 ⟨rfl, E1⟩
      replace c0 := E1.cell c0
      replace c1 := E1.cell c1
      have EE := hE0.trans E1
      go_wp2_with fail
      refine (asB hr (isRatio_c _ _ _)).mono ?_
      rintro e w2 ⟨rfl, E2⟩
      replace c0 := E2.cell c0
      replace c1 := E2.cell c1
      replace EE := EE.trans E2
      go_wp2_with fail
      refine (asB hp (isPotential_c _ _ _ _ _ _ _ _ _ (HX.out.1.mono EE) hs (HX.out.2.2.mono EE) hb1 hd)).mono ?_
      rintro e w3 ⟨rfl, E3⟩
      replace c0 := E3.cell c0
      replace c1 := E3.cell c1
      replace EE := EE.trans E3
      go_wp2_with fail
      refine (HW.out _ EE).mono ?_
      rintro e w4 ⟨rfl, rfl⟩
      simp only [Option.getD_some, Option.isSome_some]
      go_wp2_with fail
      go_region_held3 (fun w' => Ext w3 w' ∧ w'.cell? ⟨w.heap.size, 0, none⟩ = some (.int .i64 num) ∧ w'.cell? ⟨w.heap.size, 1, none⟩ = some (.int .i64 den))
        ((refine keepR1' c0 c1 ?_; (first | exact Ext.refl _ | exact (Ext.refl _).drew | exact Ext.trans ((Ext.refl _).drew) hEx | exact Ext.trans (And.left ‹_›) hEx)))
        (first | (go_at_call 74; refine (HR.out _).mono ?_; rintro e w5 ⟨rfl, hEx⟩))
      rename_i hH
      go_wp2
      go_ret
      exact ⟨rfl, EE.trans hH.1⟩
    have hq1 : (R.1 == num) = true := by simpa using h1
    by_cases h2 : R.2 = den
    case neg =>
      have hq2 : (R.2 == den) = false := by simpa using h2
      rw [show decide (R = (num, den)) = false from decide_eq_false (by rintro rfl; exact h2 rfl)]
      clear h1 h2
      go_enter Try.func45, Try.ntmps45
      go_wp2_with fail
      refine (asB hs (isSquare_c _ _ _ _ (HX.out.1.mono hE0))).mono ?_
      rintro e w1 ⟨rfl, E1⟩
      replace c0 := E1.cell c0
      replace c1 := E1.cell c1
      have EE := hE0.trans E1
      go_wp2_with fail
      refine (asB hr (isRatio_c _ _ _)).mono ?_
      rintro e w2 ⟨rfl, E2⟩
      replace c0 := E2.cell c0
      replace c1 := E2.cell c1
      replace EE := EE.trans E2
      go_wp2_with fail
      refine (asB hp (isPotential_c _ _ _ _ _ _ _ _ _ (HX.out.1.mono EE) hs (HX.out.2.2.mono EE) hb1 hd)).mono ?_
      rintro e w3 ⟨rfl, E3⟩
      replace c0 := E3.cell c0
      replace c1 := E3.cell c1
      replace EE := EE.trans E3
      go_wp2_with fail
      refine (HW.out _ EE).mono ?_
      rintro e w4 ⟨rfl, rfl⟩
      simp only [Option.getD_some, Option.isSome_some]
      go_wp2_with fail
      go_region_held3 (fun w' => Ext w3 w' ∧ w'.cell? ⟨w.heap.size, 0, none⟩ = some (.int .i64 num) ∧ w'.cell? ⟨w.heap.size, 1, none⟩ = some (.int .i64 den))
        ((refine keepR1' c0 c1 ?_; (first | exact Ext.refl _ | exact (Ext.refl _).drew | exact Ext.trans ((Ext.refl _).drew) hEx | exact Ext.trans (And.left ‹_›) hEx)))
        (first | (go_at_call 74; refine (HR.out _).mono ?_; rintro e w5 ⟨rfl, hEx⟩))
      rename_i hH
      go_wp2
      go_ret
      exact ⟨rfl, EE.trans hH.1⟩
    have hq2 : (R.2 == den) = true := by simpa using h2
    rw [show decide (R = (num, den)) = true from decide_eq_true (Prod.ext h1 h2)]
    clear h1 h2
    go_enter Try.func45, Try.ntmps45
    go_wp2_with fail
    refine (asB hs (isSquare_c _ _ _ _ (HX.out.1.mono hE0))).mono ?_
    rintro e w1 ⟨rfl, E1⟩
    replace c0 := E1.cell c0
    replace c1 := E1.cell c1
    have EE := hE0.trans E1
    go_wp2_with fail
    refine (asB hr (isRatio_c _ _ _)).mono ?_
    rintro e w2 ⟨rfl, E2⟩
    replace c0 := E2.cell c0
    replace c1 := E2.cell c1
    replace EE := EE.trans E2
    go_wp2_with fail
    refine (asB hp (isPotential_c _ _ _ _ _ _ _ _ _ (HX.out.1.mono EE) hs (HX.out.2.2.mono EE) hb1 hd)).mono ?_
    rintro e w3 ⟨rfl, E3⟩
    replace c0 := E3.cell c0
    replace c1 := E3.cell c1
    replace EE := EE.trans E3
    go_wp2_with fail
    refine (HW.out _ EE).mono ?_
    rintro e w4 ⟨rfl, rfl⟩
    simp only [Option.getD_some, Option.isSome_some]
    go_wp2_with fail
    go_region_held3 (fun w' => Ext w3 w' ∧ w'.cell? ⟨w.heap.size, 0, none⟩ = some (.int .i64 num) ∧ w'.cell? ⟨w.heap.size, 1, none⟩ = some (.int .i64 den))
      ((refine keepR1' c0 c1 ?_; (first | exact Ext.refl _ | exact (Ext.refl _).drew | exact Ext.trans ((Ext.refl _).drew) hEx | exact Ext.trans (And.left ‹_›) hEx)))
      (first | (go_at_call 74; refine (HR.out _).mono ?_; rintro e w5 ⟨rfl, hEx⟩))
    rename_i hH
    go_wp2
    go_ret
    exact ⟨rfl, EE.trans hH.1⟩

set_option maxHeartbeats 400000 in
theorem specCert_c {B : Nat} (a b c : Option Addr) (ca cb cc : Nat) (x : List (List Int)) (num den : Int) (cyc xs : List Int) (w : World) (hx : MatAt w a x) (hy : OwnI w B (.slice b cyc.length cb) cyc) (hl : cyc.length ≤ 1048576) (hz : IntsAt w c xs) :
    Calls Try.prog 44 #[.slice a x.length ca, .agg #[.int .i64 num, .int .i64 den], .slice b cyc.length cb, .slice c xs.length cc] w fun e w' => e = .returned (.bool (certV x (num, den) cyc xs)) ∧ Ext w w' := by
  obtain ⟨W, hW, HBx, hs2, hE0⟩ := alloc2_facts w (.int .i64 num) (.int .i64 den) 29
  obtain ⟨c0, c1, -, -⟩ := HBx
  have HX := Lib.hid (And.intro hx (And.intro hy hz))
  have hyl := hy.ints.len
  clear hx hz
  cases hp : isPotV x (num, den) xs
  · have e : certV x (num, den) cyc xs = false := by simp [certV, hp]
    rw [e]; clear e
    go_enter Try.func44, Try.ntmps44
    go_wp2_with fail
    refine (asB hp (specPot_c _ _ _ _ _ _ _ _ _ (HX.out.1.mono hE0) (HX.out.2.2.mono hE0))).mono ?_
    rintro e w1 ⟨rfl, E1⟩
    replace c0 := E1.cell c0
    replace c1 := E1.cell c1
    have EE := hE0.trans E1
    go_wp2
    go_ret
    exact ⟨rfl, EE⟩
  have hs : isSq x = true := by unfold isPotV at hp; simp only [Bool.and_eq_true] at hp; exact hp.1.1
  have e : certV x (num, den) cyc xs = certO num den cyc.length (cycleO x cyc) := by simp [certV, hp]
  rw [e]; clear e
  have HW := Lib.hid (fun w' (h : Ext w w') => l04Mean_c a b ca cb x cyc w' (HX.out.1.mono h) (HX.out.2.1.ext h) hl hs)
  cases hw : cycleO x cyc with
  | none =>
    rw [hw] at HW
    have e : certO num den cyc.length none = false := rfl
    rw [e]; clear e
    simp only [Option.map_none, Option.getD_none, Option.isSome_none] at HW
    go_enter Try.func44, Try.ntmps44
    go_wp2_with fail
    refine (asB hp (specPot_c _ _ _ _ _ _ _ _ _ (HX.out.1.mono hE0) (HX.out.2.2.mono hE0))).mono ?_
    rintro e w1 ⟨rfl, E1⟩
    replace c0 := E1.cell c0
    replace c1 := E1.cell c1
    have EE := hE0.trans E1
    go_wp2_with fail
    refine (HW.out _ EE).mono ?_
    rintro e w4 ⟨rfl, E4⟩
    obtain ⟨W3, hW3, HC, HC2, hs4, hE4, hE5⟩ := box_putE w4 (.int .i64 0) (.int .i64 0) 29
    obtain ⟨q0, q1, p0, p1⟩ := HC
    clear HC2
    go_wp2
    go_ret
    exact ⟨rfl, (EE.trans E4).trans hE5⟩
  | some t =>
    rw [hw] at HW
    have e : certO num den cyc.length (some t) = decide (ratOf t cyc.length = (num, den)) := rfl
    rw [e]; clear e
    simp only [Option.map_some, Option.getD_some, Option.isSome_some] at HW
    generalize ratOf t cyc.length = R at *
    by_cases h1 : R.1 = num
    case neg =>
      have hq1 : (R.1 == num) = false := by simpa using h1
      rw [show decide (R = (num, den)) = false from decide_eq_false (by rintro rfl; exact h1 rfl)]
      clear h1
      go_enter Try.func44, Try.ntmps44
      go_wp2_with fail
      refine (asB hp (specPot_c _ _ _ _ _ _ _ _ _ (HX.out.1.mono hE0) (HX.out.2.2.mono hE0))).mono ?_
      rintro e w1 ⟨rfl, E1⟩
      replace c0 := E1.cell c0
      replace c1 := E1.cell c1
      have EE := hE0.trans E1
      go_wp2_with fail
      refine (HW.out _ EE).mono ?_
      rintro e w4 ⟨rfl, E4⟩
      replace c0 := E4.cell c0
      replace c1 := E4.cell c1
      obtain ⟨W3, hW3, HC, HC2, hs4, hE4, hE5⟩ := box_putE w4 (.int .i64 R.1) (.int .i64 R.2) 29
      obtain ⟨q0, q1, p0, p1⟩ := HC
      obtain ⟨y0, y1, -, -⟩ := HC2
      replace c0 := hE5.cell c0
      replace c1 := hE5.cell c1
      go_wp2
      go_ret
      exact ⟨rfl, (EE.trans E4).trans hE5⟩
    have hq1 : (R.1 == num) = true := by simpa using h1
    by_cases h2 : R.2 = den
    case neg =>
      have hq2 : (R.2 == den) = false := by simpa using h2
      rw [show decide (R = (num, den)) = false from decide_eq_false (by rintro rfl; exact h2 rfl)]
      clear h1 h2
      go_enter Try.func44, Try.ntmps44
      go_wp2_with fail
      refine (asB hp (specPot_c _ _ _ _ _ _ _ _ _ (HX.out.1.mono hE0) (HX.out.2.2.mono hE0))).mono ?_
      rintro e w1 ⟨rfl, E1⟩
      replace c0 := E1.cell c0
      replace c1 := E1.cell c1
      have EE := hE0.trans E1
      go_wp2_with fail
      refine (HW.out _ EE).mono ?_
      rintro e w4 ⟨rfl, E4⟩
      replace c0 := E4.cell c0
      replace c1 := E4.cell c1
      obtain ⟨W3, hW3, HC, HC2, hs4, hE4, hE5⟩ := box_putE w4 (.int .i64 R.1) (.int .i64 R.2) 29
      obtain ⟨q0, q1, p0, p1⟩ := HC
      obtain ⟨y0, y1, -, -⟩ := HC2
      replace c0 := hE5.cell c0
      replace c1 := hE5.cell c1
      go_wp2
      go_ret
      exact ⟨rfl, (EE.trans E4).trans hE5⟩
    have hq2 : (R.2 == den) = true := by simpa using h2
    rw [show decide (R = (num, den)) = true from decide_eq_true (Prod.ext h1 h2)]
    clear h1 h2
    go_enter Try.func44, Try.ntmps44
    go_wp2_with fail
    refine (asB hp (specPot_c _ _ _ _ _ _ _ _ _ (HX.out.1.mono hE0) (HX.out.2.2.mono hE0))).mono ?_
    rintro e w1 ⟨rfl, E1⟩
    replace c0 := E1.cell c0
    replace c1 := E1.cell c1
    have EE := hE0.trans E1
    go_wp2_with fail
    refine (HW.out _ EE).mono ?_
    rintro e w4 ⟨rfl, E4⟩
    replace c0 := E4.cell c0
    replace c1 := E4.cell c1
    obtain ⟨W3, hW3, HC, HC2, hs4, hE4, hE5⟩ := box_putE w4 (.int .i64 R.1) (.int .i64 R.2) 29
    obtain ⟨q0, q1, p0, p1⟩ := HC
    obtain ⟨y0, y1, -, -⟩ := HC2
    replace c0 := hE5.cell c0
    replace c1 := hE5.cell c1
    go_wp2
    go_ret
    exact ⟨rfl, (EE.trans E4).trans hE5⟩

end Go.Proofs.Ytknbhgphdfipeaa
