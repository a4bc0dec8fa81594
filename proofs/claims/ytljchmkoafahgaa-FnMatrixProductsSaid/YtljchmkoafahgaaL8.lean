/- The walk of FnMatrixProducts. Condition: the code reads. -/
import Derived.Test.YtljchmkoafahgaaD6
import Derived.Test.YtljchmkoafahgaaGE
import Derived.Test.YtljchmkoafahgaaGE
import Derived.Test.YtljchmkoafahgaaGK
namespace Go.Proofs.Ytljchmkoafahgaa
set_option linter.unusedVariables false
set_option linter.unusedSimpArgs false
open Go.RowKit

def sml (z : Int) : Prop := z = -1000000000000000 ∨ (-100000000 ≤ z ∧ z ≤ 100000000)
theorem isVal_sml {z : Int} (h : isVal z = true) : sml z := by
  rcases isVal_iff.1 h with e | e
  · exact .inl e
  · exact .inr (by omega)
theorem times_fin {a b : Int} (ha : a ≠ -1000000000000000) (hb : b ≠ -1000000000000000) : times a b = a + b := by unfold times; rw [if_neg (by omega)]
theorem times_bot {a b : Int} (h : times a b ≠ -1000000000000000) : a ≠ -1000000000000000 ∧ b ≠ -1000000000000000 := by
  constructor
  · rintro rfl; exact h (by unfold times; rw [if_pos (.inl rfl)])
  · rintro rfl; exact h (by unfold times; rw [if_pos (.inr rfl)])
theorem mx_bot (n : Nat) (f : Nat → Int) : -1000000000000000 ≤ mx n f := by
  induction n with
  | zero => exact Int.le_refl _
  | succ n ih => simp only [mx]; omega
/-- products associate with a vector -/
theorem mx_assoc {K N : Nat} {A : Nat → Int} {B : Nat → Nat → Int} {V : Nat → Int} (hA : ∀ k, k < K → sml (A k)) (hB : ∀ k j, k < K → j < N → sml (B k j)) (hV : ∀ j, j < N → sml (V j)) :
    mx K (fun k => times (A k) (mx N fun j => times (B k j) (V j))) = mx N (fun j => times (mx K fun k => times (A k) (B k j)) (V j)) := by
  have hfin : ∀ {z : Int}, sml z → z ≠ -1000000000000000 → -100000000 ≤ z ∧ z ≤ 100000000 := fun h hne => h.resolve_left hne
  apply Int.le_antisymm
  · rcases (mx_spec (n := K) (f := fun k => times (A k) (mx N fun j => times (B k j) (V j)))).1 with e | ⟨k, hk, e⟩
    · rw [e]; exact mx_bot _ _
    · rw [e]
      by_cases hb : times (A k) (mx N fun j => times (B k j) (V j)) = -1000000000000000
      · rw [hb]; exact mx_bot _ _
      · obtain ⟨h1, h2⟩ := times_bot hb
        rcases (mx_spec (n := N) (f := fun j => times (B k j) (V j))).1 with e2 | ⟨j, hj, e2⟩
        · exact absurd e2 h2
        · rw [e2] at h2
          obtain ⟨h3, h4⟩ := times_bot h2
          rw [times_fin h1 (by rw [e2]; exact h2), e2, times_fin h3 h4]
          have b1 := hfin (hA k hk) h1
          have b2 := hfin (hB k j hk hj) h3
          have b3 := hfin (hV j hj) h4
          have g1 := (mx_spec (n := K) (f := fun k => times (A k) (B k j))).2 k hk
          simp only [times_fin h1 h3] at g1
          have g2 := (mx_spec (n := N) (f := fun j => times (mx K fun k => times (A k) (B k j)) (V j))).2 j hj
          rw [times_fin (by omega) h4] at g2
          omega
  · rcases (mx_spec (n := N) (f := fun j => times (mx K fun k => times (A k) (B k j)) (V j))).1 with e | ⟨j, hj, e⟩
    · rw [e]; exact mx_bot _ _
    · rw [e]
      by_cases hb : times (mx K fun k => times (A k) (B k j)) (V j) = -1000000000000000
      · rw [hb]; exact mx_bot _ _
      · obtain ⟨h1, h2⟩ := times_bot hb
        rcases (mx_spec (n := K) (f := fun k => times (A k) (B k j))).1 with e2 | ⟨k, hk, e2⟩
        · exact absurd e2 h1
        · rw [e2] at h1
          obtain ⟨h3, h4⟩ := times_bot h1
          rw [times_fin (by rw [e2]; exact h1) h2, e2, times_fin h3 h4]
          have b1 := hfin (hA k hk) h3
          have b2 := hfin (hB k j hk hj) h4
          have b3 := hfin (hV j hj) h2
          have g1 := (mx_spec (n := N) (f := fun j => times (B k j) (V j))).2 j hj
          simp only [times_fin h4 h2] at g1
          have g2 := (mx_spec (n := K) (f := fun k => times (A k) (mx N fun j => times (B k j) (V j)))).2 k hk
          rw [times_fin h3 (by omega)] at g2
          omega
theorem prod_facts {a b : List (List Int)} {v : List Int} (h : (mulV a b).2 = 0) (hv : isVec v = true) (hl : v.length = (row b 0).length) :
    ((appV b v).2 = 0 ∨ (appV b v).2 = 3) ∧ ((appV b v).2 = 0 → (appV a (appV b v).1).2 = 0 ∨ (appV a (appV b v).1).2 = 3) ∧ ((appV (mulV a b).1 v).2 = 0 ∨ (appV (mulV a b).1 v).2 = 3) ∧
      ((appV b v).2 = 0 → (appV a (appV b v).1).2 = 0 → (appV (mulV a b).1 v).2 = 0 → (appV a (appV b v).1).1 = (appV (mulV a b).1 v).1) := by
  have hab : (isMat a && isMat b) = true := by
    cases e : isMat a && isMat b
    · unfold mulV at h; rw [e] at h; simp at h
    · rfl
  have hab2 := Bool.and_eq_true _ _ ▸ hab
  obtain ⟨ha, hb⟩ := hab2
  have hs : (row a 0).length = b.length := by
    refine Classical.byContradiction fun hc => ?_
    unfold mulV at h; rw [hab, if_pos rfl, if_neg hc] at h; simp at h
  have hch : allM (mkMat a.length (row b 0).length (mulE b.length a b)) = true := by
    cases e : allM (mkMat a.length (row b 0).length (mulE b.length a b))
    · unfold mulV chkM at h; rw [hab, if_pos rfl, if_pos hs, e] at h; simp at h
    · rfl
  have hX : mulV a b = (mkMat a.length (row b 0).length (mulE b.length a b), 0) := by
    unfold mulV chkM; rw [hab, if_pos rfl, if_pos hs, hch]; rfl
  obtain ⟨ra, a1, a2, a3, a4⟩ := isMat_rect ha
  obtain ⟨rb, b1, b2, b3, b4⟩ := isMat_rect hb
  rw [hX]
  simp only
  have hXm : isMat (mkMat a.length (row b 0).length (mulE b.length a b)) = true := by rw [isMat_mk _ a1 a2 b3 b4]; exact hch
  have hXr : (row (mkMat a.length (row b 0).length (mulE b.length a b)) 0).length = (row b 0).length := by rw [mkMat_row (by omega), mkRow_len]
  have e1 : appV b v = chkX (mkRow b.length (appF v.length b v)) := by unfold appV; rw [hb, hv, if_pos (by rfl), if_pos hl.symm]
  have e3 : appV (mkMat a.length (row b 0).length (mulE b.length a b)) v = chkX (mkRow a.length (appF v.length (mkMat a.length (row b 0).length (mulE b.length a b)) v)) := by
    unfold appV; rw [hXm, hv, if_pos (by rfl), hXr, if_pos hl.symm, mkMat_len]
  have hck : ∀ p, (chkX p).2 = 0 ∨ (chkX p).2 = 3 := fun p => by unfold chkX; split <;> simp
  have hck0 : ∀ p, (chkX p).2 = 0 → (chkX p).1 = p ∧ allV p = true := fun p hp => by
    unfold chkX at hp ⊢
    split
    · rename_i e; exact ⟨rfl, e⟩
    · rename_i e; rw [if_neg e] at hp; simp at hp
  have e2 : (appV b v).2 = 0 → appV a (appV b v).1 = chkX (mkRow a.length (appF b.length a (mkRow b.length (appF v.length b v)))) := fun h0 => by
    rw [e1] at h0 ⊢
    obtain ⟨g1, g2⟩ := hck0 _ h0
    rw [g1]
    have hvp : isVec (mkRow b.length (appF v.length b v)) = true := by
      unfold isVec; rw [g2, mkRow_len, show inR (b.length : Int) 1 10 = true from inR_iff.2 (by omega)]; rfl
    unfold appV
    rw [ha, hvp, if_pos (by rfl), mkRow_len, if_pos hs]
  refine ⟨by rw [e1]; exact hck _, fun h0 => by rw [e2 h0]; exact hck _, by rw [e3]; exact hck _, fun h0 h1 h2 => ?_⟩
  rw [e2 h0] at h1 ⊢
  rw [e3] at h2 ⊢
  rw [(hck0 _ h1).1, (hck0 _ h2).1]
  have hvv : allV v = true := by unfold isVec at hv; rw [Bool.and_eq_true] at hv; exact hv.2
  refine list_ext_nth (by rw [mkRow_len, mkRow_len]) fun i hi => ?_
  rw [mkRow_len] at hi
  rw [mkRow_nth hi, mkRow_nth hi]
  have f1 : appF b.length a (mkRow b.length (appF v.length b v)) i = mx b.length (fun k => times (ent a i k) (mx v.length fun j => times (ent b k j) (nth v j))) := by
    unfold appF; exact mx_congr fun k hk => by rw [mkRow_nth hk]
  have f2 : appF v.length (mkMat a.length (row b 0).length (mulE b.length a b)) v i = mx v.length (fun j => times (mx b.length fun k => times (ent a i k) (ent b k j)) (nth v j)) := by
    unfold appF; exact mx_congr fun j hj => by rw [mkMat_ent hi (by omega)]; rfl
  rw [f1, f2]
  exact mx_assoc (fun k hk => isVal_sml (isMat_val ha hi (by omega))) (fun k j hk hj => isVal_sml (isMat_val hb hk (by omega))) (fun j hj => isVal_sml (allV_iff.1 hvv j hj))

set_option maxRecDepth 100000 in
set_option maxHeartbeats 4000000 in
theorem FnMatrixProducts_walk (ca : Option Addr) (cc : Nat) (bs : List Int) (w : World) (h : CodeAt w ca bs) :
    Calls Try.prog 12 #[.slice ca bs.length cc] w fun e w' => e = .returned (.bool true) ∧ Ext w w' := by
  have HCode := Lib.hid h
  go_enter Try.func12, Try.ntmps12
  go_wp2_with fail
  refine (big_c _ _ _ _ (by have := h.1; omega)).mono ?_
  rintro e w' ⟨t, rfl, rfl⟩
  cases t
  · go_wp2_with fail
    refine (DrawMul_c _ _ _ _ h).mono ?_
    rintro e w1 ⟨aa, ka, a, ab, kb, b, rfl, hOa, hOb, -, -, -, -, hE1⟩
    have HA := Lib.hid hOa.mat
    have HB := Lib.hid hOb.mat
    have hlA := hOa.mat.len
    have hlB := hOb.mat.len
    clear hOa hOb h
    have hi := implMul_c aa ab ka kb a b w1 HA.out HB.out
    have hs := fun w' (q : Ext w1 w') => specMul_c aa ab ka kb a b w' (HA.out.mono q) (HB.out.mono q)
    have hpf := fun v h1 h2 h3 => prod_facts (a := a) (b := b) (v := v) h1 h2 h3
    have hbm : (mulV a b).2 = 0 → isMat b = true := fun h => by
      cases e : isMat b
      · unfold mulV at h; rw [e] at h; simp at h
      · rfl
    obtain ⟨X, hX⟩ : ∃ X, mulV a b = X := ⟨_, rfl⟩
    rw [hX] at hi hs hpf hbm
    have HI := Lib.hid hi
    have HS := Lib.hid hs
    have HPF := Lib.hid (And.intro hpf hbm)
    clear hi hs hpf hX hbm
    go_wp2_with fail
    refine HI.out.mono ?_
    rintro e w2 ⟨ax, kx, rfl, hOx, hE2⟩
    go_wp2_with fail
    refine (HS.out _ hE2).mono ?_
    rintro e w3 ⟨ay, ky, rfl, hOy, hE3⟩
    have HXm := Lib.hid (hOx.ext hE3).mat
    have HYm := Lib.hid hOy.mat
    have hEw := hE2.trans hE3
    have hlX := HXm.out.len
    clear hOx hOy
    go_wp2_with fail
    refine (DrawAdd_c _ _ _ _ (HCode.out.mono (hE1.trans hEw))).mono ?_
    rintro e w4 ⟨ac, kc, c, ad, kd, d, rfl, hOc, hOd, -, -, -, -, hE4⟩
    have HCm := Lib.hid hOc.mat
    have HDm := Lib.hid hOd.mat
    clear hOc hOd
    have hi := implAdd_c ac ad kc kd c d w4 HCm.out HDm.out
    have hs := fun w' (q : Ext w4 w') => specAdd_c ac ad kc kd c d w' (HCm.out.mono q) (HDm.out.mono q)
    obtain ⟨S, hS⟩ : ∃ S, addV c d = S := ⟨_, rfl⟩
    rw [hS] at hi hs
    have HI2 := Lib.hid hi
    have HS2 := Lib.hid hs
    have hlC := HCm.out.len
    have hlD := HDm.out.len
    clear hi hs hS
    go_wp2_with fail
    refine HI2.out.mono ?_
    rintro e w5 ⟨as1, ks1, rfl, hOs1, hE5⟩
    go_wp2_with fail
    refine (HS2.out _ hE5).mono ?_
    rintro e w6 ⟨as2, ks2, rfl, hOs2, hE6⟩
    have HS1m := Lib.hid (hOs1.ext hE6).mat
    have HS2m := Lib.hid hOs2.mat
    have hE46 := hE4.trans (hE5.trans hE6)
    have hE16 := hEw.trans hE46
    clear hOs1 hOs2
    go_wp2_with fail
    refine (asB (c := true) (by simp) (likeTables_c ax ay kx ky X.1 X.1 _ (HXm.out.mono hE46) (HYm.out.mono hE46))).mono ?_
    rintro e w7 ⟨rfl, hq7⟩
    go_wp2_with fail
    refine (asB (c := true) (by simp) (likeTables_c as1 as2 ks1 ks2 S.1 S.1 _ (HS1m.out.qt hq7) (HS2m.out.qt hq7))).mono ?_
    rintro e w8 ⟨rfl, hq8⟩
    have hE18 := (hE16.qt hq7).qt hq8
    go_wp2_with fail
    refine (isMatrix_c _ _ _ _ (HA.out.mono hE18)).mono ?_
    rintro e w9 ⟨rfl, hq9⟩
    have hE19 := hE18.trans hq9
    go_wp2_with fail
    refine (sIsMatrixE_c _ _ _ _ (HA.out.mono hE19)).mono ?_
    rintro e w10 ⟨rfl, hq10⟩
    have hE110 := hE19.trans hq10
    by_cases hc0 : X.2 = 0
    · have hc0' : (X.2 != 0) = false := by rw [hc0]; rfl
      obtain ⟨rb, b1, b2, b3, b4⟩ := isMat_rect (HPF.out.2 hc0)
      have HPF2 := Lib.hid (fun v h2 h3 => HPF.out.1 v hc0 h2 h3)
      have HRb := Lib.hid rb
      clear hc0 rb
      go_wp2_with fail
      refine (roll_c _ _ _ _ _ (HCode.out.mono (hE1.trans hE110))).mono ?_
      rintro e w11 ⟨db, rfl, hE11, hdb, hD⟩
      have hdl := hD.lt
      have hO0 := OwnI.empty w11 w11.heap.size (Nat.le_refl _)
      have hD0 := hD.ext ((Ext.refl w11).alloc (.cells #[] 2))
      have hE0 := hE11.alloc (.cells #[] 2)
      clear hD
      go_wp2
      go_loopw [16, 17] (fun s i wr => ∃ (k : Nat) (v : List Int), k ≤ (row b 0).length ∧ v.length = k ∧ i = .int .i64 k ∧ Ext w10 wr ∧ w11.heap.size ≤ wr.heap.size ∧ Dice wr db ∧ OwnI wr w11.heap.size s v ∧ Hid (allV v = true)) (fun _ i _ => (row b 0).length - (intOf i).toNat)
      case atStart => exact ⟨0, [], Nat.zero_le _, rfl, rfl, hE0, ((Ext.refl w11).alloc (.cells #[] 2)).size, hD0, hO0, rfl⟩
      case round =>
        obtain ⟨k, v, hk, hvl, rfl, hE, hsz, hD, hO, hav⟩ := hrel
        clear hO0 hD0 hE0
        have hbm := HB.out.mono (hE110.trans hE)
        obtain ⟨pb, ob, rfl⟩ := hbm.base (by omega)
        obtain ⟨qb, rb2, cb, d1, -, -⟩ := hbm.hdr HRb.out (i := 0) (by omega) (by omega)
        rw [Nat.add_zero] at d1
        have hb0 : 0 < b.length := b1
        clear hbm
        by_cases hlt : k < (row b 0).length
        · go_wp2_with fail
          refine (below_c db 21 _ hD (by omega) (by omega)).mono ?_
          rintro e w12 ⟨x, rfl, ⟨hx1, hx2⟩, hD2, hG2⟩
          have hE2 := hE.src hdb hG2
          have hO2 := hO.drawnB hdl hG2
          have hl : v.length ≤ 1000000000 := by omega
          have hwx : IntKind.i64.wrap (x - 10) = x - 10 := IntWalk.i64_in _ (by omega)
          have hs : w11.heap.size ≤ (w12.alloc (.cells #[.int .i64 (x - 10)] 2)).heap.size := by
            have h1 : wr.heap.size ≤ w12.heap.size := hG2.size
            simp; omega
          have hav2 : Hid (allV (v ++ [x - 10]) = true) := by
            have h1 := hav.out
            unfold Hid allV at *
            rw [List.all_append, h1]
            have : isVal (x - 10) = true := isVal_iff.2 (.inr (by omega))
            simp [this]
          clear hD hO hG2 hE d1
          go_wp2_with (at_builtin; refine app_i rfl _ _ rfl w11.heap.size _ _ rfl (hO2.ext ((Ext.refl w12).alloc _)) ⟨w12.heap.size, 0, none⟩ 1 (x - 10) rfl (cell_one _ _ _) hl hs ?_)
          intro v' w13 hO4 hg
          have hE4 := hE2.alloc (.cells #[.int .i64 (x - 10)] 2)
          have hE5 := hE4.grown hg (fun b hb => by have := hO2.base b hb; omega)
          have hD4 := (hD2.ext ((Ext.refl w12).alloc (.cells #[.int .i64 (x - 10)] 2))).row hg fun k hk => by have := hO2.base k hk; omega
          go_wp2
          go_roundw
          case rel => exact ⟨k + 1, v ++ [x - 10], by omega, by simp; omega, by go_num, hE5, Nat.le_trans hs hg.size, hD4, hO4, hav2⟩
          case measure => simp [intOf]; omega
        · have hkb : v.length = (row b 0).length := by omega
          obtain rfl : k = (row b 0).length := by omega
          obtain ⟨av, kv, rfl, hvi⟩ := hO.at
          have hisv : isVec v = true := by
            unfold isVec
            rw [hav.out, show inR (v.length : Int) 1 10 = true from inR_iff.2 (by omega)]; rfl
          obtain ⟨f1, f2, f3, f4⟩ := HPF2.out v hisv hkb
          have hEr := hE110.trans hE
          have hP := implApp_c _ av kb kv b v wr (HB.out.mono hEr) hvi
          have hQ := fun (p : List Int) (ap : Option Addr) (kp : Nat) w' (q : Ext wr w') (hp : IntsAt w' ap p) => implApp_c aa ap ka kp a p w' ((HA.out.mono hEr).mono q) hp
          have hR := fun w' (q : Ext wr w') => implApp_c ax av kx kv X.1 v w' (((HXm.out.mono (hE46.trans ((((Ext.refl w6).qt hq7).qt hq8).trans (hq9.trans hq10)))).mono hE).mono q) (hvi.mono q)
          generalize appV X.1 v = R at *
          generalize hPP : appV b v = P at *
          have hQ2 := hQ P.1
          generalize appV a P.1 = Q at *
          obtain ⟨P1, P2⟩ := P
          obtain ⟨Q1, Q2⟩ := Q
          obtain ⟨R1, R2⟩ := R
          simp only at f1 f2 f3 f4 hP hQ2 hR
          rw [hkb] at hP
          simp only [hkb] at hR
          have HP := Lib.hid hP
          have HQ := Lib.hid hQ2
          have HR := Lib.hid hR
          have HF := Lib.hid (And.intro f2 (And.intro f3 f4))
          have hvl2 := hvi.len
          clear hP hQ hQ2 hR f2 f3 f4 hPP hO hD hvi hav hisv
          have hlt2 : ¬ (((row b 0).length : Int) < ((row b 0).length : Int)) := by omega
          go_wp2_with fail
          refine HP.out.mono ?_
          rintro e w12 ⟨ap, kp, rfl, hOp, hE12⟩
          go_wp2_with fail
          refine (HQ.out _ _ _ hE12 hOp.ints).mono ?_
          rintro e w13 ⟨aq, kq, rfl, hOq, hE13⟩
          go_wp2_with fail
          refine (HR.out _ (hE12.trans hE13)).mono ?_
          rintro e w14 ⟨ar, kr, rfl, hOr, hE14⟩
          have HOq := Lib.hid (hOq.ext hE14).ints
          have HOr := Lib.hid hOr.ints
          have hEf := hE1.trans (((hEr.trans hE12).trans hE13).trans hE14)
          clear hOp hOq hOr
          rcases f1 with rfl | rfl
          · have f2 := HF.out.1 rfl
            have f3 := HF.out.2.1
            rcases f2 with rfl | rfl
            · rcases f3 with rfl | rfl
              · have e4 := HF.out.2.2 rfl rfl rfl
                subst e4
                go_wp2_with fail
                refine (asB (c := true) (by simp) (likeInts_c aq ar kq kr Q1 Q1 _ HOq.out HOr.out)).mono ?_
                rintro e w15 ⟨rfl, hq15⟩
                go_wp2
                go_ret
                exact ⟨rfl, hEf.qt hq15⟩
              · go_wp2
                go_ret
                exact ⟨rfl, hEf⟩
            · go_wp2
              go_ret
              exact ⟨rfl, hEf⟩
          · go_wp2
            go_ret
            exact ⟨rfl, hEf⟩
    · have hc0' : (X.2 != 0) = true := by simpa using hc0
      clear hc0
      go_wp2
      go_ret
      exact ⟨rfl, hE1.trans hE110⟩
  · go_wp2
    go_ret
    exact ⟨rfl, Ext.refl _⟩
end Go.Proofs.Ytljchmkoafahgaa
