/- Contracts of isPotential, l04Holds, and of the parts of StretchMatrix and ShiftMatrix. Conditions: the forms of the matrices. -/
import Derived.Test.YtknbhgphdfipeaaM12
import Derived.Test.YtknbhgphdfipeaaM9
import Derived.Test.YtknbhgphdfipeaaM5
import Derived.Test.YtknbhgphdfipeaaS2
namespace Go.Proofs.Ytknbhgphdfipeaa
set_option linter.unusedVariables false
set_option linter.unusedSimpArgs false
open Go.RowKit

/-- x is a potential of the shifted matrix -/
def potAt (x : List (List Int)) (num den : Int) (xs : List Int) (i j : Nat) : Bool := shiftE x num den i j == -1000000000000000 || decide (shiftE x num den i j + nth xs j ≤ nth xs i)
def potB (x : List (List Int)) (num den : Int) (xs : List Int) : Bool := (List.range x.length).all fun i => (List.range x.length).all fun j => potAt x num den xs i j
theorem potB_iff {x : List (List Int)} {num den : Int} {xs : List Int} : potB x num den xs = true ↔ ∀ i j, i < x.length → j < x.length → potAt x num den xs i j = true := by
  unfold potB
  simp only [List.all_eq_true, List.mem_range]
  exact ⟨fun h i j hi hj => h i hi j hj, fun h i hi j hj => h i j hi hj⟩
theorem potB_no {x : List (List Int)} {num den : Int} {xs : List Int} {i j : Nat} (hi : i < x.length) (hj : j < x.length) (h : potAt x num den xs i j = false) : potB x num den xs = false := by
  cases e : potB x num den xs
  · rfl
  · have := potB_iff.1 e i j hi hj; rw [h] at this; cases this
def potL (x : List (List Int)) (num den : Int) (xs : List Int) : Bool := (xs.length == x.length) && inAll (-1000000) 1000000 xs && potB x num den xs
def isPotV (x : List (List Int)) (r : Int × Int) (xs : List Int) : Bool := isSq x && isRat r && potL x r.1 r.2 xs
theorem allF_in (xs : List Int) : allF xs = inAll (-1000000) 1000000 xs := rfl
theorem isRat_bd2 {r : Int × Int} (h : isRat r = true) : (-1000000 ≤ r.1 ∧ r.1 ≤ 1000000) ∧ (1 ≤ r.2 ∧ r.2 ≤ 1000000) := by
  unfold isRat at h
  simp only [Bool.and_eq_true, fin_iff, inR_iff] at h
  exact ⟨h.1.1, h.1.2⟩
theorem shiftM_ent {x : List (List Int)} {num den : Int} {i j : Nat} (hi : i < x.length) (hj : j < x.length) : ent (shiftM x num den) i j = shiftE x num den i j := mkMat_ent hi hj
theorem shiftM_rect (x : List (List Int)) (num den : Int) : Rect (shiftM x num den) x.length x.length := rect_mk _ _ _
/-- both bounds of a sum in the loop -/
theorem pot_wrap {z u : Int} (hz : -1000001000000 ≤ z ∧ z ≤ 1000001000000) (hu : -1000000 ≤ u ∧ u ≤ 1000000) : IntKind.i64.wrap (z + u) = z + u := IntWalk.i64_in _ (by omega)

set_option maxHeartbeats 1000000 in
theorem isPotential_c (a b : Option Addr) (ca cb : Nat) (x : List (List Int)) (num den : Int) (xs : List Int) (w : World) (hx : MatAt w a x) (hs : isSq x = true) (hy : IntsAt w b xs) (hn : -1000000 ≤ num ∧ num ≤ 1000000) (hd : -1000000 ≤ den ∧ den ≤ 1000000) :
    Calls Try.prog 86 #[.slice a x.length ca, .agg #[.int .i64 num, .int .i64 den], .slice b xs.length cb] w fun e w' => e = .returned (.bool (potL x num den xs)) ∧ Ext w w' := by
  obtain ⟨rx, hl1, hl2⟩ := isSq_rect hs
  obtain ⟨W, hW, HB, hs2, hE0⟩ := alloc2_facts w (.int .i64 num) (.int .i64 den) 29
  have hxl := hx.len
  have hyl := hy.len
  by_cases hl : xs.length = x.length
  · have hl' : ((xs.length : Int) != (x.length : Int)) = false := by simp [hl]
    cases hf : inAll (-1000000) 1000000 xs
    · have e : potL x num den xs = false := by simp [potL, hf]
      rw [e]; clear e
      have hy' := hy.mono hE0
      clear hl
      go_enter Try.func86, Try.ntmps86
      go_wp2_with fail
      refine (asB hf (allWithin_c _ _ _ _ _ _ hy')).mono ?_
      rintro e w1 ⟨rfl, rfl⟩
      go_wp2
      go_ret
      exact ⟨rfl, hE0⟩
    have e : potL x num den xs = potB x num den xs := by simp [potL, hf, hl]
    have He := Lib.hid e
    clear e
    obtain ⟨c0, c1, -, -⟩ := HB
    obtain ⟨p2, o2, rfl⟩ := hy.base (by omega)
    have HX := Lib.hid (And.intro hx (And.intro hs (And.intro (hy.mono hE0) (And.intro hf hl))))
    clear rx hx hs hy hf hl
    go_enter Try.func86, Try.ntmps86
    go_wp2_with fail
    refine (asB HX.out.2.2.2.1 (allWithin_c _ _ _ _ _ _ HX.out.2.2.1)).mono ?_
    rintro e w1 ⟨rfl, rfl⟩
    go_wp2_with fail
    refine (shifted_c _ _ _ _ _ _ (HX.out.1.mono hE0) HX.out.2.1 hn hd).mono ?_
    rintro e w1 ⟨a1, cap1, rfl, hO, hE1⟩
    have hmat := Lib.hid hO.mat
    have hml : (shiftM x num den).length = x.length := mkMat_len _ _ _
    rw [hml]
    obtain ⟨p, o, rfl⟩ := hmat.out.base (by omega)
    clear hO c0 c1 hml
    go_wp2
    go_loopw [25] (fun i wr => ∃ k : Nat, k ≤ x.length ∧ i = .int .i64 k ∧ Qt w1 wr ∧ Hid (∀ i j, i < k → j < x.length → potAt x num den xs i j = true)) (fun i _ => x.length - (intOf i).toNat)
    case atStart => exact ⟨0, Nat.zero_le _, rfl, Qt.refl _, fun i j hi => absurd hi (Nat.not_lt_zero _)⟩
    case round =>
      obtain ⟨k, hk, rfl, hq, hj⟩ := hrel
      by_cases hlt : k < x.length
      · obtain ⟨q, o3, c, d1, dd, -⟩ := hmat.out.hdr (shiftM_rect _ _ _) hlt (by omega)
        replace d1 := hq.ext.cell d1
        have DD := Lib.hid dd
        clear dd
        go_wp2
        clear d1
        go_loopw [32] (fun i wr => ∃ t : Nat, t ≤ x.length ∧ i = .int .i64 t ∧ Qt w1 wr ∧ Hid (∀ j, j < t → potAt x num den xs k j = true)) (fun i _ => x.length - (intOf i).toNat)
        case atStart => exact ⟨0, Nat.zero_le _, rfl, hq, fun j hj => absurd hj (Nat.not_lt_zero _)⟩
        case round =>
          obtain ⟨t, ht, rfl, hq2, hj2⟩ := hrel
          by_cases hltn : t < x.length
          · have d2 := hq2.ext.cell (DD.out t hltn)
            rw [shiftM_ent hlt hltn] at d2
            have e1 := hq2.ext.cell (hE1.cell (HX.out.2.2.1.cell (i := t) (by have := HX.out.2.2.2.2; omega)))
            have e2 := hq2.ext.cell (hE1.cell (HX.out.2.2.1.cell (i := k) (by have := HX.out.2.2.2.2; omega)))
            have hu1 := inR_iff.1 (inAll_iff.1 HX.out.2.2.2.1 t (by have := HX.out.2.2.2.2; omega))
            have hu2 := inR_iff.1 (inAll_iff.1 HX.out.2.2.2.1 k (by have := HX.out.2.2.2.2; omega))
            have hlx : xs.length = x.length := HX.out.2.2.2.2
            have hpa : potAt x num den xs k t = (shiftE x num den k t == -1000000000000000 || decide (shiftE x num den k t + nth xs t ≤ nth xs k)) := rfl
            have hz := shiftE_bd HX.out.2.1 hn hd hlt hltn
            generalize shiftE x num den k t = z at *
            generalize nth xs t = u at *
            generalize nth xs k = v at *
            by_cases s4 : z = -1000000000000000
            · subst s4
              have hpa' : potAt x num den xs k t = true := by rw [hpa]; rfl
              have Hp := Lib.hid hpa'
              clear hpa hpa' hz
              go_wp2_with fail
              go_big_quiet (fail)
              go_wp2
              go_roundw
              case rel => exact ⟨t + 1, by omega, by go_num, hq2.drewN _, fun j h => by
                by_cases e : j = t
                · subst e; exact Hp.out
                · exact hj2.out j (by omega)⟩
              case measure => simp [intOf]; omega
            · have hs4 : (z == -1000000000000000) = false := by simpa using s4
              have hs4' : (z != -1000000000000000) = true := by simpa using s4
              have hz2 : -1000001000000 ≤ z ∧ z ≤ 1000001000000 := by rcases hz with e | e; exact absurd e s4; exact e
              have hw1 := pot_wrap hz2 hu1
              rw [hs4, Bool.false_or] at hpa
              by_cases s5 : z + u ≤ v
              · have hpa' : potAt x num den xs k t = true := by rw [hpa]; exact decide_eq_true s5
                have Hp := Lib.hid hpa'
                clear hpa hpa' hz s4
                go_wp2_with fail
                go_big_quiet (fail)
                go_wp2
                go_roundw
                case rel => exact ⟨t + 1, by omega, by go_num, hq2.drewN _, fun j h => by
                  by_cases e : j = t
                  · subst e; exact Hp.out
                  · exact hj2.out j (by omega)⟩
                case measure => simp [intOf]; omega
              · have hpa' : potAt x num den xs k t = false := by rw [hpa]; exact decide_eq_false s5
                have Hp := Lib.hid (potB_no hlt hltn hpa')
                have s6 : v < z + u := by omega
                clear hpa hpa' hz s4 s5
                go_wp2_with fail
                go_big_quiet (fail)
                go_wp2
                go_ret
                exact ⟨ret_bool (by rw [He.out, Hp.out]), (hE0.trans hE1).qt (hq2.drewN _)⟩
          · obtain rfl : x.length = t := by omega
            go_wp2
            go_roundw
            case rel => exact ⟨k + 1, by omega, by go_num, hq2, fun i j hi hjj => by
              by_cases e : i = k
              · subst e; exact hj2.out j hjj
              · exact hj.out i j (by omega) hjj⟩
            case measure => simp [intOf]; omega
      · go_wp2
        go_ret
        exact ⟨ret_bool (by rw [He.out, potB_iff.2 fun i j hi hjj => hj.out i j (by omega) hjj]), (hE0.trans hE1).qt hq⟩
  · have hl' : ((xs.length : Int) != (x.length : Int)) = true := by simp; omega
    have e : potL x num den xs = false := by unfold potL; rw [show (xs.length == x.length) = false by simpa using hl]; rfl
    rw [e]; clear e
    clear hl
    go_enter Try.func86, Try.ntmps86
    go_wp2
    go_ret
    exact ⟨rfl, hE0⟩
set_option maxHeartbeats 1000000 in
theorem l04Holds_c (a b : Option Addr) (ca cb : Nat) (x : List (List Int)) (num den : Int) (xs : List Int) (w : World) (hx : MatAt w a x) (hs : isSq x = true) (hy : IntsAt w b xs) (hn : -1000000 ≤ num ∧ num ≤ 1000000) (hd : -1000000 ≤ den ∧ den ≤ 1000000) :
    Calls Try.prog 120 #[.slice a x.length ca, .agg #[.int .i64 num, .int .i64 den], .slice b xs.length cb] w fun e w' => e = .returned (.bool (potL x num den xs)) ∧ Ext w w' := by
  obtain ⟨rx, hl1, hl2⟩ := isSq_rect hs
  obtain ⟨W, hW, HB, hs2, hE0⟩ := alloc2_facts w (.int .i64 num) (.int .i64 den) 29
  have hxl := hx.len
  have hyl := hy.len
  by_cases hl : xs.length = x.length
  · have hl' : ((xs.length : Int) != (x.length : Int)) = false := by simp [hl]
    cases hf : inAll (-1000000) 1000000 xs
    · have e : potL x num den xs = false := by simp [potL, hf]
      rw [e]; clear e
      have hy' := hy.mono hE0
      clear hl
      go_enter Try.func120, Try.ntmps120
      go_wp2_with fail
      refine (asB hf (l01AllF_c _ _ _ _ hy')).mono ?_
      rintro e w1 ⟨rfl, rfl⟩
      go_wp2
      go_ret
      exact ⟨rfl, hE0⟩
    have e : potL x num den xs = potB x num den xs := by simp [potL, hf, hl]
    have He := Lib.hid e
    clear e
    obtain ⟨c0, c1, -, -⟩ := HB
    obtain ⟨p2, o2, rfl⟩ := hy.base (by omega)
    have HX := Lib.hid (And.intro hx (And.intro hs (And.intro (hy.mono hE0) (And.intro hf hl))))
    clear rx hx hs hy hf hl
    go_enter Try.func120, Try.ntmps120
    go_wp2_with fail
    refine (asB HX.out.2.2.2.1 (l01AllF_c _ _ _ _ HX.out.2.2.1)).mono ?_
    rintro e w1 ⟨rfl, rfl⟩
    go_wp2_with fail
    refine (l04Shift_c _ _ _ _ _ _ (HX.out.1.mono hE0) HX.out.2.1 hn hd).mono ?_
    rintro e w1 ⟨a1, cap1, rfl, hO, hE1⟩
    have hmat := Lib.hid hO.mat
    have hml : (shiftM x num den).length = x.length := mkMat_len _ _ _
    rw [hml]
    obtain ⟨p, o, rfl⟩ := hmat.out.base (by omega)
    clear hO c0 c1 hml
    go_wp2
    go_loopw [8] (fun i wr => ∃ k : Nat, k ≤ x.length ∧ i = .int .i64 k ∧ Qt w1 wr ∧ Hid (∀ i j, i < k → j < x.length → potAt x num den xs i j = true)) (fun i _ => x.length - (intOf i).toNat)
    case atStart => exact ⟨0, Nat.zero_le _, rfl, Qt.refl _, fun i j hi => absurd hi (Nat.not_lt_zero _)⟩
    case round =>
      obtain ⟨k, hk, rfl, hq, hj⟩ := hrel
      by_cases hlt : k < x.length
      · obtain ⟨q, o3, c, d1, dd, -⟩ := hmat.out.hdr (shiftM_rect _ _ _) hlt (by omega)
        have D1 := Lib.hid d1
        have DD := Lib.hid dd
        clear dd d1
        go_wp2
        go_loopw [9] (fun i wr => ∃ t : Nat, t ≤ x.length ∧ i = .int .i64 t ∧ Qt w1 wr ∧ Hid (∀ j, j < t → potAt x num den xs k j = true)) (fun i _ => x.length - (intOf i).toNat)
        case atStart => exact ⟨0, Nat.zero_le _, rfl, hq, fun j hj => absurd hj (Nat.not_lt_zero _)⟩
        case round =>
          obtain ⟨t, ht, rfl, hq2, hj2⟩ := hrel
          by_cases hltn : t < x.length
          · have d1 := hq2.ext.cell D1.out
            have d2 := hq2.ext.cell (DD.out t hltn)
            rw [shiftM_ent hlt hltn] at d2
            have e1 := hq2.ext.cell (hE1.cell (HX.out.2.2.1.cell (i := t) (by have := HX.out.2.2.2.2; omega)))
            have e2 := hq2.ext.cell (hE1.cell (HX.out.2.2.1.cell (i := k) (by have := HX.out.2.2.2.2; omega)))
            have hu1 := inR_iff.1 (inAll_iff.1 HX.out.2.2.2.1 t (by have := HX.out.2.2.2.2; omega))
            have hu2 := inR_iff.1 (inAll_iff.1 HX.out.2.2.2.1 k (by have := HX.out.2.2.2.2; omega))
            have hlx : xs.length = x.length := HX.out.2.2.2.2
            have hpa : potAt x num den xs k t = (shiftE x num den k t == -1000000000000000 || decide (shiftE x num den k t + nth xs t ≤ nth xs k)) := rfl
            have hz := shiftE_bd HX.out.2.1 hn hd hlt hltn
            generalize shiftE x num den k t = z at *
            generalize nth xs t = u at *
            generalize nth xs k = v at *
            by_cases s4 : z = -1000000000000000
            · subst s4
              have hpa' : potAt x num den xs k t = true := by rw [hpa]; rfl
              have Hp := Lib.hid hpa'
              clear hpa hpa' hz
              go_wp2_with fail
              go_big_quiet (fail)
              go_wp2
              go_roundw
              case rel => exact ⟨t + 1, by omega, by go_num, hq2.drewN _, fun j h => by
                by_cases e : j = t
                · subst e; exact Hp.out
                · exact hj2.out j (by omega)⟩
              case measure => simp [intOf]; omega
            · have hs4 : (z == -1000000000000000) = false := by simpa using s4
              have hs4' : (z != -1000000000000000) = true := by simpa using s4
              have hz2 : -1000001000000 ≤ z ∧ z ≤ 1000001000000 := by rcases hz with e | e; exact absurd e s4; exact e
              have hw1 := pot_wrap hz2 hu1
              rw [hs4, Bool.false_or] at hpa
              by_cases s5 : z + u ≤ v
              · have hpa' : potAt x num den xs k t = true := by rw [hpa]; exact decide_eq_true s5
                have Hp := Lib.hid hpa'
                clear hpa hpa' hz s4
                go_wp2_with fail
                go_big_quiet (fail)
                go_wp2
                go_roundw
                case rel => exact ⟨t + 1, by omega, by go_num, hq2.drewN _, fun j h => by
                  by_cases e : j = t
                  · subst e; exact Hp.out
                  · exact hj2.out j (by omega)⟩
                case measure => simp [intOf]; omega
              · have hpa' : potAt x num den xs k t = false := by rw [hpa]; exact decide_eq_false s5
                have Hp := Lib.hid (potB_no hlt hltn hpa')
                have s6 : v < z + u := by omega
                clear hpa hpa' hz s4 s5
                go_wp2_with fail
                go_big_quiet (fail)
                go_wp2
                go_ret
                exact ⟨ret_bool (by rw [He.out, Hp.out]), (hE0.trans hE1).qt (hq2.drewN _)⟩
          · obtain rfl : x.length = t := by omega
            go_wp2
            go_roundw
            case rel => exact ⟨k + 1, by omega, by go_num, hq2, fun i j hi hjj => by
              by_cases e : i = k
              · subst e; exact hj2.out j hjj
              · exact hj.out i j (by omega) hjj⟩
            case measure => simp [intOf]; omega
      · go_wp2
        go_ret
        exact ⟨ret_bool (by rw [He.out, potB_iff.2 fun i j hi hjj => hj.out i j (by omega) hjj]), (hE0.trans hE1).qt hq⟩
  · have hl' : ((xs.length : Int) != (x.length : Int)) = true := by simp; omega
    have e : potL x num den xs = false := by unfold potL; rw [show (xs.length == x.length) = false by simpa using hl]; rfl
    rw [e]; clear e
    clear hl
    go_enter Try.func120, Try.ntmps120
    go_wp2
    go_ret
    exact ⟨rfl, hE0⟩

theorem specPot_c (a b : Option Addr) (ca cb : Nat) (x : List (List Int)) (num den : Int) (xs : List Int) (w : World) (hx : MatAt w a x) (hy : IntsAt w b xs) :
    Calls Try.prog 85 #[.slice a x.length ca, .agg #[.int .i64 num, .int .i64 den], .slice b xs.length cb] w fun e w' => e = .returned (.bool (isPotV x (num, den) xs)) ∧ Ext w w' := by
  obtain ⟨W, hW, HB, hs2, hE0⟩ := alloc2_facts w (.int .i64 num) (.int .i64 den) 29
  obtain ⟨c0, c1, -, -⟩ := HB
  cases hs : isSq x
  · have e : isPotV x (num, den) xs = false := by simp [isPotV, hs]
    rw [e]; clear e
    have HX := Lib.hid hx
    clear hx
    go_enter Try.func85, Try.ntmps85
    go_wp2_with fail
    refine (asB hs (l02Square_c _ _ _ _ (HX.out.mono hE0))).mono ?_
    rintro e w1 ⟨rfl, E1⟩
    go_wp2
    go_ret
    exact ⟨rfl, hE0.trans E1.ext⟩
  cases hr : isRat (num, den)
  · have e : isPotV x (num, den) xs = false := by simp [isPotV, hr]
    rw [e]; clear e
    have HX := Lib.hid hx
    clear hx
    go_enter Try.func85, Try.ntmps85
    go_wp2_with fail
    refine (asB hs (l02Square_c _ _ _ _ (HX.out.mono hE0))).mono ?_
    rintro e w1 ⟨rfl, E1⟩
    replace E1 := E1.ext
    replace c0 := E1.cell c0
    replace c1 := E1.cell c1
    go_wp2_with fail
    refine (asB hr (sIsRatio_c _ _ _)).mono ?_
    rintro e w2 ⟨rfl, E2⟩
    replace c0 := E2.cell c0
    replace c1 := E2.cell c1
    go_wp2
    go_ret
    exact ⟨rfl, (hE0.trans E1).trans E2⟩
  have e : isPotV x (num, den) xs = potL x num den xs := by simp [isPotV, hs, hr]
  rw [e]; clear e
  obtain ⟨hb1, hb2⟩ := isRat_bd2 hr
  simp only at hb1 hb2
  have HX := Lib.hid (And.intro hx (And.intro hy hs))
  clear hx hy
  go_enter Try.func85, Try.ntmps85
  go_wp2_with fail
  refine (asB hs (l02Square_c _ _ _ _ (HX.out.1.mono hE0))).mono ?_
  rintro e w1 ⟨rfl, E1⟩
  replace E1 := E1.ext
  replace c0 := E1.cell c0
  replace c1 := E1.cell c1
  go_wp2_with fail
  refine (asB hr (sIsRatio_c _ _ _)).mono ?_
  rintro e w2 ⟨rfl, E2⟩
  replace c0 := E2.cell c0
  replace c1 := E2.cell c1
  have E := (hE0.trans E1).trans E2
  go_wp2_with fail
  refine (l04Holds_c _ _ _ _ _ _ _ _ _ (HX.out.1.mono E) HX.out.2.2 (HX.out.2.1.mono E) hb1 (by omega)).mono ?_
  rintro e w3 ⟨rfl, E3⟩
  go_wp2
  go_ret
  exact ⟨rfl, E.trans E3⟩

theorem l05Stretch_c (a : Option Addr) (ca : Nat) (x : List (List Int)) (n : Int) (w : World) (hx : MatAt w a x) (hs : isSq x = true) (hn : -1000000 ≤ n ∧ n ≤ 1000000) :
    Calls Try.prog 108 #[.slice a x.length ca, .int .i64 n] w (GivesM w (shiftM x 0 n)) := by
  have hxl := hx.len
  have HX := Lib.hid hx
  clear hx
  go_enter Try.func108, Try.ntmps108
  go_wp2_with fail
  refine (l04Shift_c _ _ _ _ _ _ HX.out hs (by omega) hn).mono ?_
  rintro e w1 ⟨a1, cap1, rfl, hO, hE1⟩
  go_wp2
  go_ret
  exact ⟨a1, cap1, rfl, hO, hE1⟩
theorem l03Result_c (a : Option Addr) (ca : Nat) (x : List (List Int)) (w : World) (hx : MatAt w a x) :
    Calls Try.prog 78 #[.slice a x.length ca] w fun e w' => e = .returned (.tuple (if isMat x then #[.slice a x.length ca, .int .i64 0] else #[.slice none 0 0, .int .i64 3])) ∧ Qt w w' := by
  cases h : isMat x
  · have H := Lib.hid h
    clear h
    go_enter Try.func78, Try.ntmps78
    go_wp2_with fail
    refine (asB H.out (sIsMatrix_c _ _ _ _ hx)).mono ?_
    rintro e w1 ⟨rfl, E1⟩
    go_wp2
    go_ret2
    exact ⟨rfl, E1⟩
  · have H := Lib.hid h
    clear h
    go_enter Try.func78, Try.ntmps78
    go_wp2_with fail
    refine (asB H.out (sIsMatrix_c _ _ _ _ hx)).mono ?_
    rintro e w1 ⟨rfl, E1⟩
    go_wp2
    go_ret2
    exact ⟨rfl, E1⟩
end Go.Proofs.Ytknbhgphdfipeaa
