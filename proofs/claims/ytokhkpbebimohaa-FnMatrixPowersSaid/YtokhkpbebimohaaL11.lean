/- The walk of FnMatrixPowers. Condition: the code reads. -/
import Derived.Test.YtokhkpbebimohaaD10
import Derived.Test.YtokhkpbebimohaaL8
import Derived.Test.YtokhkpbebimohaaE8
namespace Go.Proofs.Ytokhkpbebimohaa
set_option linter.unusedVariables false
set_option linter.unusedSimpArgs false
open Go.RowKit

theorem mx_single {n i : Nat} {f : Nat → Int} {v : Int} (hi : i < n) (h1 : f i = v) (hv : -1000000000000000 ≤ v) (h : ∀ k, k < n → k ≠ i → f k = -1000000000000000) : mx n f = v := by
  apply Int.le_antisymm
  · rcases (mx_spec (n := n) (f := f)).1 with e | ⟨k, hk, e⟩
    · rw [e]; exact hv
    · rw [e]
      by_cases e2 : k = i
      · subst e2; omega
      · rw [h k hk e2]; exact hv
  · have := (mx_spec (n := n) (f := f)).2 i hi
    omega
theorem val_lo {z : Int} (h : isVal z = true) : -1000000000000000 ≤ z := by rcases isVal_iff.1 h with e | e <;> omega
theorem mul_unit {n : Nat} {p : List (List Int)} (hr : Rect p n n) (hp : ∀ i j, i < n → j < n → isVal (ent p i j) = true) : mkMat n n (mulE n p (mkMat n n unitF)) = p := by
  refine (rect_eq_mk hr fun i j hi hj => ?_).symm
  refine (mx_single hj ?_ (val_lo (hp i j hi hj)) fun k hk hne => ?_).symm
  · rw [mkMat_ent hj hj]; unfold unitF times; rw [if_pos rfl]
    split
    · rename_i h; rcases h with h | h
      · exact h.symm
      · omega
    · omega
  · rw [mkMat_ent hk hj]; unfold unitF times; rw [if_neg hne, if_pos (.inr rfl)]
theorem unit_mul {n : Nat} {p : List (List Int)} (hr : Rect p n n) (hp : ∀ i j, i < n → j < n → isVal (ent p i j) = true) : mkMat n n (mulE n (mkMat n n unitF) p) = p := by
  refine (rect_eq_mk hr fun i j hi hj => ?_).symm
  refine (mx_single hi ?_ (val_lo (hp i j hi hj)) fun k hk hne => ?_).symm
  · rw [mkMat_ent hi hi]; unfold unitF times; rw [if_pos rfl]
    split
    · rename_i h; rcases h with h | h
      · omega
      · exact h.symm
    · omega
  · rw [mkMat_ent hi hk]; unfold unitF; rw [if_neg (fun e => hne e.symm)]; unfold times; rw [if_pos (.inl rfl)]
theorem allM_val {n : Nat} {p : List (List Int)} (hr : Rect p n n) (h : allM p = true) : ∀ i j, i < n → j < n → isVal (ent p i j) = true := fun i j hi hj => by
  unfold allM at h
  exact allV_iff.1 (all_iff_row.1 h i (by rw [hr.1]; exact hi)) j (by rw [hr.2 i hi]; exact hj)
theorem powS_rect2 {n : Nat} {a : List (List Int)} {k : Nat} {p : List (List Int)} (h : powS n a k = some p) : Rect p n n := by
  obtain ⟨f, rfl⟩ := powS_form h; exact rect_mk _ _ _
theorem powS_ent {n : Nat} {a : List (List Int)} {k : Nat} {p : List (List Int)} (h : powS n a k = some p) : ∀ i j, i < n → j < n → isVal (ent p i j) = true := allM_val (powS_rect2 h) (powS_val h)
theorem powS_down {n : Nat} {a : List (List Int)} {k : Nat} {x : List (List Int)} (h : powS n a (k + 1) = some x) : ∃ p, powS n a k = some p ∧ x = mkMat n n (mulE n p a) := by
  simp only [powS] at h
  cases e : powS n a k with
  | none => rw [e] at h; simp at h
  | some p =>
    rw [e] at h
    simp only at h
    split at h
    · simp only [Option.some.injEq] at h; exact ⟨p, rfl, h.symm⟩
    · simp at h
/-- the power of a sum -/
theorem pow_add {n : Nat} {a : List (List Int)} (ha : ∀ i j, i < n → j < n → isVal (ent a i j) = true) {i : Nat} {p : List (List Int)} (hp : powS n a i = some p) :
    ∀ (j : Nat) (q x : List (List Int)), powS n a j = some q → powS n a (i + j) = some x → mkMat n n (mulE n p q) = x := by
  intro j
  induction j with
  | zero =>
    intro q x hq hx
    simp only [powS, Option.some.injEq] at hq
    rw [Nat.add_zero, hp] at hx
    simp only [Option.some.injEq] at hx
    subst hq; subst hx
    exact mul_unit (powS_rect2 hp) (powS_ent hp)
  | succ j ih =>
    intro q x hq hx
    obtain ⟨q', hq', rfl⟩ := powS_down hq
    obtain ⟨x', hx', rfl⟩ := powS_down (k := i + j) hx
    have e := ih q' x' hq' hx'
    have hpv := powS_ent hp
    have hqv := powS_ent hq'
    refine (rect_eq_mk (rect_mk _ _ _) fun r c hr hc => ?_).symm
    rw [mkMat_ent hr hc]
    have h1 : mulE n x' a r c = mx n fun k => times (mx n fun l => times (ent p r l) (ent q' l k)) (ent a k c) := by
      unfold mulE
      refine mx_congr fun k hk => ?_
      rw [← e, mkMat_ent hr hk]; rfl
    rw [h1, ← mx_assoc (A := fun l => ent p r l) (B := fun l k => ent q' l k) (V := fun k => ent a k c) (fun l hl => isVal_sml (hpv r l hr hl)) (fun l k hl hk => isVal_sml (hqv l k hl hk)) (fun k hk => isVal_sml (ha k c hk hc))]
    unfold mulE
    refine mx_congr fun l hl => ?_
    rw [mkMat_ent hl hc]
theorem chkM_of {p : List (List Int)} (h : allM p = true) : chkM p = (p, 0) := by unfold chkM; rw [if_pos h]
theorem mulV_sq {n : Nat} {p q x : List (List Int)} (h1 : 1 ≤ n) (h2 : n ≤ 10) (rp : Rect p n n) (rq : Rect q n n) (hp : isMat p = true) (hq : isMat q = true) (e : mkMat n n (mulE n p q) = x) (hx : allM x = true) : mulV p q = (x, 0) := by
  unfold mulV
  rw [hp, hq, rp.2 0 (by omega), rq.2 0 (by omega), rp.1, rq.1]
  simp only [Bool.and_self, if_true]
  rw [e]; exact chkM_of hx
theorem powS_isMat {n : Nat} {a : List (List Int)} {k : Nat} {p : List (List Int)} (h1 : 1 ≤ n) (h2 : n ≤ 10) (h : powS n a k = some p) : isMat p = true := by
  have hv := powS_val h
  obtain ⟨f, rfl⟩ := powS_form h
  rw [isMat_mk f h1 h2 h1 h2]; exact hv
theorem pow_facts {a : List (List Int)} {n : Int} (h : (powMV a n).2 = 0) : (0 ≤ n ∧ n ≤ 100) ∧ (∀ i : Int, 0 ≤ i → i ≤ n → (powMV a i).2 = 0 ∧ (powMV a (n - i)).2 = 0 ∧ mulV (powMV a i).1 (powMV a (n - i)).1 = ((powMV a n).1, 0)) ∧
    (unitV (a.length : Nat)).2 = 0 ∧ mulV (unitV (a.length : Nat)).1 (powMV a n).1 = ((powMV a n).1, 0) := by
  have h1 : isMat a = true := by
    cases e : isMat a
    · unfold powMV at h; rw [e] at h; simp at h
    · rfl
  have h2 : inR n 0 100 = true := by
    cases e : inR n 0 100
    · unfold powMV at h; rw [h1, e] at h; simp at h
    · rfl
  have h3 : a.length = (row a 0).length := Classical.byContradiction fun e => by
    unfold powMV at h; rw [h1, h2, if_neg e] at h; simp at h
  have hval : ∀ i, 0 ≤ i → i ≤ 100 → powMV a i = optM (powS a.length a i.toNat) := fun i hi1 hi2 => by
    unfold powMV; rw [h1, inR_iff.2 ⟨hi1, hi2⟩, if_pos h3]; rfl
  have hn := inR_iff.1 h2
  obtain ⟨ra, b1, b2, b3, b4⟩ := isMat_rect h1
  have hav : ∀ i j, i < a.length → j < a.length → isVal (ent a i j) = true := fun i j hi hj => isMat_val h1 hi (by omega)
  rw [hval n hn.1 hn.2] at h ⊢
  cases ex : powS a.length a n.toNat with
  | none => rw [ex] at h; simp [optM] at h
  | some x =>
    have hxv := powS_val ex
    refine ⟨hn, fun i hi1 hi2 => ?_, ?_, ?_⟩
    · rw [hval i hi1 (by omega), hval (n - i) (by omega) (by omega)]
      have es : i.toNat + (n - i).toNat = n.toNat := by omega
      cases ep : powS a.length a i.toNat with
      | none => have := powS_mono ep (n - i).toNat; rw [es, ex] at this; cases this
      | some p =>
        cases eq : powS a.length a (n - i).toNat with
        | none => have := powS_mono eq i.toNat; rw [Nat.add_comm, es, ex] at this; cases this
        | some q =>
          refine ⟨rfl, rfl, ?_⟩
          simp only [optM]
          exact mulV_sq b1 b2 (powS_rect2 ep) (powS_rect2 eq) (powS_isMat b1 b2 ep) (powS_isMat b1 b2 eq) (pow_add hav ep _ q x eq (by rw [es] <;> exact ex)) hxv
    · unfold unitV; rw [inR_iff.2 (by omega)]; rfl
    · have eu : (unitV (a.length : Nat)).1 = mkMat a.length a.length unitF := by unfold unitV; rw [inR_iff.2 (by omega)]; rfl
      rw [eu]
      simp only [optM]
      refine mulV_sq b1 b2 (rect_mk _ _ _) (powS_rect2 ex) ?_ (powS_isMat b1 b2 ex) (unit_mul (powS_rect2 ex) (powS_ent ex)) hxv
      rw [isMat_mk _ b1 b2 b1 b2]; exact allM_unit _

set_option maxRecDepth 100000 in
set_option maxHeartbeats 4000000 in
theorem FnMatrixPowers_walk (ca : Option Addr) (cc : Nat) (bs : List Int) (w : World) (h : CodeAt w ca bs) :
    Calls Try.prog 4 #[.slice ca bs.length cc] w fun e w' => e = .returned (.bool true) ∧ Ext w w' := by
  have HCode := Lib.hid h
  go_enter Try.func4, Try.ntmps4
  go_wp2_with fail
  refine (big_c _ _ _ _ (by have := h.1; omega)).mono ?_
  rintro e w' ⟨t, rfl, rfl⟩
  cases t
  · go_wp2_with fail
    refine (DrawPowerMatrix_c _ _ _ _ h).mono ?_
    rintro e w1 ⟨aa, ka, a, n, rfl, hOa, hla, hnI, hE1⟩
    have HA := Lib.hid hOa.mat
    clear hOa h
    have hi := fun (n : Int) w' (q : Ext w1 w') => implPow_c aa ka a n w' (HA.out.mono q)
    have hs := fun w' (q : Ext w1 w') => specPow_c aa ka a n w' (HA.out.mono q)
    have hf := fun h => pow_facts (a := a) (n := n) h
    have hI := Lib.hid hi
    have hi1 := fun w' q => hi n w' q
    obtain ⟨V, hV⟩ : ∃ V, powMV a n = V := ⟨_, rfl⟩
    rw [hV] at hi1 hs hf
    have HI := Lib.hid hi1
    have HS := Lib.hid hs
    have HF := Lib.hid hf
    clear hi hs hf hi1 hV
    go_wp2_with fail
    refine (HI.out _ (Ext.refl _)).mono ?_
    rintro e w2 ⟨ax, kx, rfl, hOx, hE2⟩
    go_wp2_with fail
    refine (HS.out _ hE2).mono ?_
    rintro e w3 ⟨ay, ky, rfl, hOy, hE3⟩
    have HXm := Lib.hid (hOx.ext hE3).mat
    have HYm := Lib.hid hOy.mat
    have hE13 := hE2.trans hE3
    clear hOx hOy
    go_wp2_with fail
    refine (DrawUnitMatrix_c _ _ _ _ (HCode.out.mono (hE1.trans hE13))).mono ?_
    rintro e w4 ⟨sz, rfl, -, hE4⟩
    have hiu := fun w' => implUnit_c sz w'
    have hsu := fun w' => specUnit_c sz w'
    obtain ⟨U, hU⟩ : ∃ U, unitV sz = U := ⟨_, rfl⟩
    rw [hU] at hiu hsu
    have HIU := Lib.hid hiu
    have HSU := Lib.hid hsu
    clear hiu hsu hU
    go_wp2_with fail
    refine (HIU.out _).mono ?_
    rintro e w5 ⟨au, ku, rfl, hOu, hE5⟩
    go_wp2_with fail
    refine (HSU.out _).mono ?_
    rintro e w6 ⟨av, kv, rfl, hOv, hE6⟩
    have HUm := Lib.hid (hOu.ext hE6).mat
    have HVm := Lib.hid hOv.mat
    have hE36 := hE4.trans (hE5.trans hE6)
    have hE16 := hE13.trans hE36
    clear hOu hOv
    go_wp2_with fail
    refine (DrawBottomMatrix_c _ _ _ _ (HCode.out.mono (hE1.trans hE16))).mono ?_
    rintro e w7 ⟨m1, m2, rfl, -, -, hE7⟩
    have hib := fun w' => implBottom_c m1 m2 w'
    have hsb := fun w' => specBottom_c m1 m2 w'
    obtain ⟨B, hB⟩ : ∃ B, botV m1 m2 = B := ⟨_, rfl⟩
    rw [hB] at hib hsb
    have HIB := Lib.hid hib
    have HSB := Lib.hid hsb
    clear hib hsb hB
    go_wp2_with fail
    refine (HIB.out _).mono ?_
    rintro e w8 ⟨ab, kb, rfl, hOb, hE8⟩
    go_wp2_with fail
    refine (HSB.out _).mono ?_
    rintro e w9 ⟨ac, kc, rfl, hOc, hE9⟩
    have HBm := Lib.hid (hOb.ext hE9).mat
    have HCm := Lib.hid hOc.mat
    have hE69 := hE7.trans (hE8.trans hE9)
    have hE39 := hE36.trans hE69
    have hE19 := hE16.trans hE69
    clear hOb hOc
    go_wp2_with fail
    refine (asB (c := true) (by simp) (likeTables_c ax ay kx ky V.1 V.1 _ (HXm.out.mono hE39) (HYm.out.mono hE39))).mono ?_
    rintro e w10 ⟨rfl, hq10⟩
    go_wp2_with fail
    refine (asB (c := true) (by simp) (likeTables_c au av ku kv U.1 U.1 _ ((HUm.out.mono hE69).qt hq10) ((HVm.out.mono hE69).qt hq10))).mono ?_
    rintro e w11 ⟨rfl, hq11⟩
    go_wp2_with fail
    refine (asB (c := true) (by simp) (likeTables_c ab ac kb kc B.1 B.1 _ ((HBm.out.qt hq10).qt hq11) ((HCm.out.qt hq10).qt hq11))).mono ?_
    rintro e w12 ⟨rfl, hq12⟩
    have hE112 := ((hE19.qt hq10).qt hq11).qt hq12
    have HX12 := Lib.hid ((((HXm.out.mono hE39).qt hq10).qt hq11).qt hq12)
    by_cases hc0 : V.2 = 0
    · have hc0' : (V.2 != 0) = false := by rw [hc0]; rfl
      obtain ⟨hn, f1, f2, f3⟩ := HF.out hc0
      have HF1 := Lib.hid f1
      have HF2 := Lib.hid (And.intro f2 f3)
      clear hc0 f1 f2 f3
      go_wp2_with fail
      refine (roll_c _ _ _ _ _ (HCode.out.mono (hE1.trans hE112))).mono ?_
      rintro e w13 ⟨db, rfl, hE13', hdb, hD⟩
      have hwn : IntKind.i64.wrap (n + 1) = n + 1 := IntWalk.i64_in _ (by omega)
      go_wp2_with fail
      refine (below2_c db (n + 1) _ hD (by omega) (by omega)).mono ?_
      rintro e w14 ⟨pt, rfl, ⟨hp1, hp2⟩, hD2, hG2⟩
      have hE1214 := hE13'.src hdb hG2
      have hE114 := hE112.trans hE1214
      obtain ⟨g1, g2, g3⟩ := HF1.out pt hp1 (by omega)
      have hip := hI.out pt w14 hE114
      have hiq := fun w' q => hI.out (n - pt) w' q
      obtain ⟨P, hP⟩ : ∃ P, powMV a pt = P := ⟨_, rfl⟩
      obtain ⟨Q, hQ⟩ : ∃ Q, powMV a (n - pt) = Q := ⟨_, rfl⟩
      rw [hP] at hip g1 g3
      rw [hQ] at hiq g2 g3
      have hmul := fun (a1 b1 : Option Addr) (c1 c2 : Nat) w' hx hy => implMul_c a1 b1 c1 c2 P.1 Q.1 w' hx hy
      rw [g3] at hmul
      have hiu := fun w' => implUnit_c (a.length : Nat) w'
      have hmu := fun (a1 b1 : Option Addr) (c1 c2 : Nat) w' hx hy => implMul_c a1 b1 c1 c2 (unitV (a.length : Nat)).1 V.1 w' hx hy
      rw [HF2.out.2] at hmu
      have hu2 := HF2.out.1
      obtain ⟨E, hEd⟩ : ∃ E, unitV (a.length : Nat) = E := ⟨_, rfl⟩
      rw [hEd] at hiu hmu hu2
      rw [g1] at hip
      rw [g2] at hiq
      rw [hu2] at hiu
      have HIP := Lib.hid hip
      have HIQ := Lib.hid hiq
      have HMul := Lib.hid hmul
      have HIU2 := Lib.hid hiu
      have HMu := Lib.hid hmu
      have hwp : IntKind.i64.wrap (n - pt) = n - pt := IntWalk.i64_in _ (by omega)
      clear hip hiq hmul hiu hmu hP hQ hEd g1 g2 g3 hu2 HF HF1 HF2 hD hD2 hG2
      go_wp2_with fail
      refine HIP.out.mono ?_
      rintro e w15 ⟨ap, kp, rfl, hOp, hE15⟩
      go_wp2_with fail
      refine (HIQ.out _ (hE114.trans hE15)).mono ?_
      rintro e w16 ⟨aq, kq, rfl, hOq, hE16'⟩
      go_wp2_with fail
      refine (HMul.out _ _ _ _ _ (hOp.ext hE16').mat hOq.mat).mono ?_
      rintro e w17 ⟨am, km, rfl, hOm, hE17⟩
      have HMm := Lib.hid hOm.mat
      have hE1417 := (hE15.trans hE16').trans hE17
      clear hOp hOq hOm
      go_wp2_with fail
      refine (HIU2.out _).mono ?_
      rintro e w18 ⟨ae, ke, rfl, hOe, hE18⟩
      have HX18 := Lib.hid (HX12.out.mono ((hE1214.trans hE1417).trans hE18))
      go_wp2_with fail
      refine (HMu.out _ _ _ _ _ hOe.mat HX18.out).mono ?_
      rintro e w19 ⟨as', ks, rfl, hOs, hE19'⟩
      have HS19 := Lib.hid hOs.mat
      have HX19 := Lib.hid (HX18.out.mono hE19')
      have HM19 := Lib.hid (HMm.out.mono (hE18.trans hE19'))
      have hE119 := hE114.trans (hE1417.trans (hE18.trans hE19'))
      clear hOe hOs
      go_wp2_with fail
      refine (asB (c := true) (by simp) (likeTables_c am ax km kx V.1 V.1 _ HM19.out HX19.out)).mono ?_
      rintro e w20 ⟨rfl, hq20⟩
      go_wp2_with fail
      refine (asB (c := true) (by simp) (likeTables_c as' ax ks kx V.1 V.1 _ (HS19.out.qt hq20) (HX19.out.qt hq20))).mono ?_
      rintro e w21 ⟨rfl, hq21⟩
      go_wp2
      go_ret
      exact ⟨rfl, hE1.trans ((hE119.qt hq20).qt hq21)⟩
    · have hc0' : (V.2 != 0) = true := by simpa using hc0
      clear hc0
      go_wp2
      go_ret
      exact ⟨rfl, hE1.trans hE112⟩
  · go_wp2
    go_ret
    exact ⟨rfl, Ext.refl _⟩
end Go.Proofs.Ytokhkpbebimohaa
