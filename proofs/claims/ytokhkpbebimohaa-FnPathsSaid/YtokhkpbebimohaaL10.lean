/- The walk of FnFixedPoints. Condition: the code reads. -/
import Derived.Test.YtokhkpbebimohaaD9
import Derived.Test.YtokhkpbebimohaaE7
import Derived.Test.YtokhkpbebimohaaGE
namespace Go.Proofs.Ytokhkpbebimohaa
set_option linter.unusedVariables false
set_option linter.unusedSimpArgs false
open Go.RowKit

theorem times_val {a b : Int} (h : times a b ≠ -1000000000000000) : a ≠ -1000000000000000 ∧ b ≠ -1000000000000000 ∧ times a b = a + b := by
  unfold times at h ⊢
  split at h
  · exact absurd rfl h
  · rename_i hn
    rw [if_neg hn]
    exact ⟨fun e => hn (.inl e), fun e => hn (.inr e), rfl⟩
theorem times_of {a b : Int} (ha : a ≠ -1000000000000000) (hb : b ≠ -1000000000000000) : times a b = a + b := by
  unfold times; rw [if_neg (by rintro (e | e); exact ha e; exact hb e)]
/-- the star applied to a vector solves the equation -/
theorem fix_eq {A S : Nat → Nat → Int} {n : Nat} {b x : Nat → Int} (hS : IsStar A n S) (hA : ∀ i j, i < n → j < n → A i j ≠ -1000000000000000 → -1000000 ≤ A i j ∧ A i j ≤ 1000000)
    (hb : ∀ k, k < n → isVal (b k) = true) (hx : ∀ i, i < n → x i = mx n fun k => times (S i k) (b k)) (hv : ∀ i, i < n → isVal (x i) = true) :
    ∀ i, i < n → x i = max (mx n fun k => times (A i k) (x k)) (b i) := by
  have hlow : ∀ i, i < n → -1000000000000000 ≤ x i := fun i hi => by rcases isVal_iff.1 (hv i hi) with e | e <;> omega
  have hblow : ∀ i, i < n → -1000000000000000 ≤ b i := fun i hi => by rcases isVal_iff.1 (hb i hi) with e | e <;> omega
  have top : ∀ i l s, i < n → l < n → WP A n i l s → s ≤ S i l ∧ WP A n i l (S i l) := fun i l s hi hl hs => by
    rcases hS i l hi hl with ⟨_, h⟩ | ⟨h1, h2⟩
    · exact absurd hs (h s)
    · exact ⟨h2 s hs, h1⟩
  have use : ∀ i l s, i < n → l < n → WP A n i l s → -100000000000000 ≤ s → b l ≠ -1000000000000000 → s + b l ≤ x i := fun i l s hi hl hs h1 h2 => by
    have h3 := (top i l s hi hl hs).1
    have h4 := (mx_spec (n := n) (f := fun k => times (S i k) (b k))).2 l hl
    rw [← hx i hi] at h4
    rw [times_of (by omega) h2] at h4
    omega
  have hge : ∀ i, i < n → b i ≤ x i := fun i hi => by
    by_cases e : b i = -1000000000000000
    · rw [e]; exact hlow i hi
    · have := use i i 0 hi hi (.inl ⟨rfl, rfl⟩) (by omega) e; omega
  have far : ∀ i, i < n → x i ≠ -1000000000000000 → ∃ l, l < n ∧ b l ≠ -1000000000000000 ∧ WP A n i l (x i - b l) ∧ -2000000 ≤ x i - b l := fun i hi hne => by
    rcases (mx_spec (n := n) (f := fun k => times (S i k) (b k))).1 with e | ⟨l, hl, e⟩
    · exact absurd ((hx i hi).trans e) hne
    · rw [← hx i hi] at e
      have h1 := times_val (a := S i l) (b := b l) (by rw [← e]; exact hne)
      have hxv := (isVal_iff.1 (hv i hi)).resolve_left hne
      have hbv := (isVal_iff.1 (hb l hl)).resolve_left h1.2.1
      have e2 : x i = S i l + b l := e.trans h1.2.2
      refine ⟨l, hl, h1.2.1, ?_, by omega⟩
      rcases hS i l hi hl with ⟨h, _⟩ | ⟨h, _⟩
      · exact absurd h h1.1
      · rw [show x i - b l = S i l by omega]; exact h
  intro i hi
  have hmx := mx_spec (n := n) (f := fun k => times (A i k) (x k))
  have hle1 : (mx n fun k => times (A i k) (x k)) ≤ x i := by
    rcases hmx.1 with e | ⟨k, hk, e⟩
    · rw [e]; exact hlow i hi
    · by_cases hne : times (A i k) (x k) = -1000000000000000
      · rw [e, hne]; exact hlow i hi
      · obtain ⟨h1, h2, h3⟩ := times_val hne
        obtain ⟨l, hl, hbl, hw, hlo⟩ := far k hk h2
        have ha := hA i k hi hk h1
        have hw2 : WP A n i l (A i k + (x k - b l)) := by
          rcases hw with ⟨rfl, e0⟩ | ⟨m, m1, m2, m3⟩
          · exact .inr ⟨[], lo_nil _, h1, by rw [e0]; simp [wt]⟩
          · exact .inr ⟨k :: m, lo_cons.2 ⟨hk, m1⟩, ⟨h1, m2⟩, by rw [← m3]; rfl⟩
        have := use i l _ hi hl hw2 (by omega) hbl
        rw [e, h3]; omega
  have hle2 : x i ≤ max (mx n fun k => times (A i k) (x k)) (b i) := by
    by_cases hne : x i = -1000000000000000
    · rw [hne]; have := hblow i hi; omega
    · obtain ⟨l, hl, hbl, hw, hlo⟩ := far i hi hne
      have step : ∀ k, k < n → A i k ≠ -1000000000000000 → x i - A i k ≤ x k → x i ≤ mx n fun k => times (A i k) (x k) := fun k hk ha hxk => by
        have hav := hA i k hi hk ha
        have hxi := (isVal_iff.1 (hv i hi)).resolve_left hne
        have h4 := hmx.2 k hk
        rw [times_of ha (by omega)] at h4
        omega
      rcases hw with ⟨rfl, e0⟩ | ⟨m, m1, m2, m3⟩
      · omega
      · cases m with
        | nil =>
          have m3 : A i l = x i - b l := m3
          have := step l hl m2 (by have := hge l hl; omega)
          omega
        | cons k m =>
          have m3 : A i k + wt A k m l = x i - b l := m3
          have hk := (lo_cons.1 m1).1
          have hav := hA i k hi hk m2.1
          have := use k l (wt A k m l) hk hl (.inr ⟨m, (lo_cons.1 m1).2, m2.2, rfl⟩) (by omega) hbl
          have := step k hk m2.1 (by omega)
          omega
  have := hge i hi
  omega
theorem fix_facts {a : List (List Int)} {b : List Int} (h : (fixV a b).2 = 0) : ((appV a (fixV a b).1).2 = 0 ∨ (appV a (fixV a b).1).2 = 3) ∧
    ((appV a (fixV a b).1).2 = 0 → (fixV a b).1.length = b.length ∧ (appV a (fixV a b).1).1.length = b.length ∧ ∀ i, i < b.length → nth (fixV a b).1 i = max (nth (appV a (fixV a b).1).1 i) (nth b i)) := by
  have h1 : (isSq a && isVec b) = true := by
    cases e : isSq a && isVec b
    · unfold fixV at h; rw [e] at h; simp at h
    · rfl
  have h2 : (starB (ent a) a.length && a.length == b.length) = true := by
    cases e : starB (ent a) a.length && a.length == b.length
    · unfold fixV at h; rw [h1, e] at h; simp at h
    · rfl
  have hf : fixV a b = chkX (mkRow a.length (appF a.length (starM a a.length) b)) := by unfold fixV; rw [h1, h2]; rfl
  rw [Bool.and_eq_true] at h1 h2
  have hl : a.length = b.length := by simpa using h2.2
  have hall : allV (mkRow a.length (appF a.length (starM a a.length) b)) = true := by
    cases e : allV (mkRow a.length (appF a.length (starM a a.length) b))
    · rw [hf] at h; unfold chkX at h; rw [e] at h; simp at h
    · rfl
  have hf1 : (fixV a b).1 = mkRow a.length (appF a.length (starM a a.length) b) := by rw [hf]; unfold chkX; rw [hall]; rfl
  rw [hf1]
  obtain ⟨rx, hn1, hn2⟩ := isSq_rect h1.1
  have hxl : (mkRow a.length (appF a.length (starM a a.length) b)).length = a.length := mkRow_len _ _
  have hM : isMat a = true := by
    have := h1.1; unfold isSq at this; rw [Bool.and_eq_true] at this; exact this.1
  have hV : isVec (mkRow a.length (appF a.length (starM a a.length) b)) = true := by
    unfold isVec; rw [hall, hxl, inR_iff.2 (by omega)]; rfl
  have hbv := h1.2
  unfold isVec at hbv
  rw [Bool.and_eq_true] at hbv
  have happ : appV a (mkRow a.length (appF a.length (starM a a.length) b)) = chkX (mkRow a.length (appF a.length a (mkRow a.length (appF a.length (starM a a.length) b)))) := by
    unfold appV; rw [hM, hV, hxl, rx.2 0 (by omega)]; simp
  have hE : ∀ i, i < a.length → nth (mkRow a.length (appF a.length (starM a a.length) b)) i = max (mx a.length fun k => times (ent a i k) (nth (mkRow a.length (appF a.length (starM a a.length) b)) k)) (nth b i) :=
    fix_eq (A := ent a) (S := fwS (ent a) a.length) (b := nth b) (x := nth (mkRow a.length (appF a.length (starM a a.length) b))) (star_isStar (isSq_abd h1.1) h2.1) (fun i j hi hj hne => isSq_ebd1 h1.1 hne)
      (fun k hk => allV_iff.1 hbv.2 k (by omega)) (fun i hi => by
        rw [mkRow_nth hi]; unfold appF
        refine mx_congr fun k hk => ?_
        unfold starM; rw [mkMat_ent hi hk]) (fun i hi => allV_iff.1 hall i (by omega))
  rw [happ]
  unfold chkX
  by_cases hc : allV (mkRow a.length (appF a.length a (mkRow a.length (appF a.length (starM a a.length) b)))) = true
  · rw [if_pos hc]
    refine ⟨.inl rfl, fun _ => ⟨by omega, by simp only [mkRow_len]; exact hl, fun i hi => ?_⟩⟩
    rw [hE i (by omega)]
    simp only
    rw [mkRow_nth (f := appF a.length a _) (by omega : i < a.length)]; rfl
  · rw [if_neg hc]
    exact ⟨.inr rfl, fun h => by simp at h⟩

set_option maxRecDepth 100000 in
set_option maxHeartbeats 2000000 in
theorem FnFixedPoints_walk (ca : Option Addr) (cc : Nat) (bs : List Int) (w : World) (h : CodeAt w ca bs) :
    Calls Try.prog 5 #[.slice ca bs.length cc] w fun e w' => e = .returned (.bool true) ∧ Ext w w' := by
  go_enter Try.func5, Try.ntmps5
  go_wp2_with fail
  refine (big_c _ _ _ _ (by have := h.1; omega)).mono ?_
  rintro e w' ⟨t, rfl, rfl⟩
  cases t
  · go_wp2_with fail
    refine (DrawFixedPoint_c _ _ _ _ h).mono ?_
    rintro e w1 ⟨aa, ka, a, av, kv, b, rfl, hOa, hla, -, hOx, hlx, hE1⟩
    have HA := Lib.hid hOa.mat
    have HX := Lib.hid hOx.ints
    clear hOa hOx
    have hi := implFix_c aa av ka kv a b w1 HA.out HX.out
    have hs := fun w' (q : Ext w1 w') => specFix_c aa av ka kv a b w' (HA.out.mono q) (HX.out.mono q)
    have hf := fun h => fix_facts (a := a) (b := b) h
    have hm := fun (ac : Option Addr) (kc : Nat) w' (q : Ext w1 w') (hc : IntsAt w' ac (fixV a b).1) => implApp_c aa ac ka kc a (fixV a b).1 w' (HA.out.mono q) hc
    generalize appV a (fixV a b).1 = Y at *
    generalize fixV a b = V at *
    have HI := Lib.hid hi
    have HS := Lib.hid hs
    have HF := Lib.hid hf
    have HM := Lib.hid hm
    clear hi hs hf hm
    go_wp2_with fail
    refine HI.out.mono ?_
    rintro e w2 ⟨ay, ky, rfl, hOy, hE2⟩
    go_wp2_with fail
    refine (HS.out _ hE2).mono ?_
    rintro e w3 ⟨as', ks, rfl, hOs, hE3⟩
    have HY := Lib.hid (hOy.ext hE3).ints
    have HSp := Lib.hid hOs.ints
    have hyl := (hOy.ext hE3).ints.len
    have hEw := hE2.trans hE3
    clear hOy hOs
    go_wp2_with fail
    refine (asB (c := true) (by simp) (likeInts_c ay as' ky ks V.1 V.1 _ HY.out HSp.out)).mono ?_
    rintro e w4 ⟨rfl, hq4⟩
    replace hEw := hEw.qt hq4
    have HY4 := Lib.hid (HY.out.qt hq4)
    by_cases hc0 : V.2 = 0
    · have hc0' : (V.2 != 0) = false := by rw [hc0]; rfl
      obtain ⟨f1, f2⟩ := HF.out hc0
      have HF2 := Lib.hid f2
      clear hc0 f2
      go_wp2_with fail
      refine (HM.out ay ky _ hEw HY4.out).mono ?_
      rintro e w5 ⟨az, kz, rfl, hOz, hE5⟩
      have hEt := hEw.trans hE5
      rcases f1 with f1 | f1
      · obtain ⟨e1, e2, e3⟩ := HF2.out f1
        have f1' : (Y.2 != 0) = false := by rw [f1]; rfl
        have HZ := Lib.hid hOz.ints
        have HYz := Lib.hid (HY4.out.mono hE5)
        have HXz := Lib.hid (HX.out.mono hEt)
        have HE3 := Lib.hid e3
        rw [e1] at hyl ⊢
        rw [e2]
        have HL := Lib.hid (And.intro e1 e2)
        clear f1 hOz e3 e1 e2
        go_wp2
        go_loopw [11] (fun i wr => ∃ (j : Nat), j ≤ b.length ∧ i = .int .i64 j ∧ Qt w5 wr) (fun i _ => b.length - (intOf i).toNat)
        case atStart => exact ⟨0, Nat.zero_le _, rfl, Qt.refl _⟩
        case round =>
          obtain ⟨j, hj, rfl, hq⟩ := hrel
          by_cases hjl : j < b.length
          · have hy := HYz.out.qt hq
            obtain ⟨py, oy, rfl⟩ := hy.base (by rw [HL.out.1]; omega)
            have g1 := hy.cell (i := j) (by rw [HL.out.1]; exact hjl)
            have hz := HZ.out.qt hq
            obtain ⟨pz, oz, rfl⟩ := hz.base (by rw [HL.out.2]; omega)
            have g2 := hz.cell (i := j) (by rw [HL.out.2]; exact hjl)
            have hx := HXz.out.qt hq
            obtain ⟨px, ox, rfl⟩ := hx.base (by omega)
            have g3 := hx.cell hjl
            have he := HE3.out j hjl
            clear hy hz hx
            generalize nth V.1 j = v1 at *
            generalize nth Y.1 j = v2 at *
            generalize nth b j = v3 at *
            subst he
            go_wp2_with fail
            go_region
            all_goals
              go_wp2
              go_roundw
              case rel => exact ⟨j + 1, by omega, by go_num, hq.drewN _⟩
              case measure => simp [intOf]; omega
          · obtain rfl : b.length = j := by omega
            go_wp2
            go_ret
            exact ⟨rfl, hE1.trans (hEt.qt hq)⟩
      · have f1' : (Y.2 != 0) = true := by rw [f1]; rfl
        have f1'' : (Y.2 == 3) = true := by rw [f1]; rfl
        clear f1
        go_wp2
        go_ret
        exact ⟨rfl, hE1.trans hEt⟩
    · have hc0' : (V.2 != 0) = true := by simpa using hc0
      clear hc0
      go_wp2
      go_ret
      exact ⟨rfl, hE1.trans hEw⟩
  · go_wp2
    go_ret
    exact ⟨rfl, Ext.refl _⟩
end Go.Proofs.Ytokhkpbebimohaa
