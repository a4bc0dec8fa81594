/- Plain law: what is handed back as a potential is one; its code tells the mean. No program is entered. -/
import Derived.Test.YtokhkpbebimohaaL10
import Derived.Test.YtokhkpbebimohaaK14
import Derived.Test.YtokhkpbebimohaaGO
namespace Go.Proofs.Ytokhkpbebimohaa
set_option linter.unusedVariables false

/-- the star applied to a vector solves the equation -/
theorem fix_eqW {A S : Nat → Nat → Int} {n : Nat} {b x : Nat → Int} (hS : IsStar A n S) (hA : ∀ i j, i < n → j < n → A i j ≠ -1000000000000000 → -2000000000000 ≤ A i j ∧ A i j ≤ 2000000000000)
    (hb : ∀ k, k < n → isVal (b k) = true) (hx : ∀ i, i < n → x i = mx n fun k => times (S i k) (b k)) (hv : ∀ i, i < n → isVal (x i) = true) :
    ∀ i, i < n → x i = max (mx n fun k => times (A i k) (x k)) (b i) := by
  have hlow : ∀ i, i < n → -1000000000000000 ≤ x i := fun i hi => by rcases isVal_iff.1 (hv i hi) with e | e <;> omega
  have hblow : ∀ i, i < n → -1000000000000000 ≤ b i := fun i hi => by rcases isVal_iff.1 (hb i hi) with e | e <;> omega
  have top : ∀ i l s, i < n → l < n → WP A n i l s → s ≤ S i l ∧ WP A n i l (S i l) := fun i l s hi hl hs => by
    rcases hS i l hi hl with ⟨_, h⟩ | ⟨h1, h2⟩
    · exact absurd hs (h s)
    · exact ⟨h2 s hs, h1⟩
  have use : ∀ i l s, i < n → l < n → WP A n i l s → -100000000000000 ≤ s → b l ≠ -1000000000000000 → s + b l ≤ x i := fun i l s hi hl hs h1 h2 => by
    have h3 := (top i l s hi hl hs).1
    have h4 := (mx_spec (n := n) (f := fun k => times (S i k) (b k))).2 l hl
    rw [← hx i hi] at h4
    rw [times_of (by omega) h2] at h4
    omega
  have hge : ∀ i, i < n → b i ≤ x i := fun i hi => by
    by_cases e : b i = -1000000000000000
    · rw [e]; exact hlow i hi
    · have := use i i 0 hi hi (.inl ⟨rfl, rfl⟩) (by omega) e; omega
  have far : ∀ i, i < n → x i ≠ -1000000000000000 → ∃ l, l < n ∧ b l ≠ -1000000000000000 ∧ WP A n i l (x i - b l) ∧ -2000000 ≤ x i - b l := fun i hi hne => by
    rcases (mx_spec (n := n) (f := fun k => times (S i k) (b k))).1 with e | ⟨l, hl, e⟩
    · exact absurd ((hx i hi).trans e) hne
    · rw [← hx i hi] at e
      have h1 := times_val (a := S i l) (b := b l) (by rw [← e]; exact hne)
      have hxv := (isVal_iff.1 (hv i hi)).resolve_left hne
      have hbv := (isVal_iff.1 (hb l hl)).resolve_left h1.2.1
      have e2 : x i = S i l + b l := e.trans h1.2.2
      refine ⟨l, hl, h1.2.1, ?_, by omega⟩
      rcases hS i l hi hl with ⟨h, _⟩ | ⟨h, _⟩
      · exact absurd h h1.1
      · rw [show x i - b l = S i l by omega]; exact h
  intro i hi
  have hmx := mx_spec (n := n) (f := fun k => times (A i k) (x k))
  have hle1 : (mx n fun k => times (A i k) (x k)) ≤ x i := by
    rcases hmx.1 with e | ⟨k, hk, e⟩
    · rw [e]; exact hlow i hi
    · by_cases hne : times (A i k) (x k) = -1000000000000000
      · rw [e, hne]; exact hlow i hi
      · obtain ⟨h1, h2, h3⟩ := times_val hne
        obtain ⟨l, hl, hbl, hw, hlo⟩ := far k hk h2
        have ha := hA i k hi hk h1
        have hw2 : WP A n i l (A i k + (x k - b l)) := by
          rcases hw with ⟨rfl, e0⟩ | ⟨m, m1, m2, m3⟩
          · exact .inr ⟨[], lo_nil _, h1, by rw [e0]; simp [wt]⟩
          · exact .inr ⟨k :: m, lo_cons.2 ⟨hk, m1⟩, ⟨h1, m2⟩, by rw [← m3]; rfl⟩
        have := use i l _ hi hl hw2 (by omega) hbl
        rw [e, h3]; omega
  have hle2 : x i ≤ max (mx n fun k => times (A i k) (x k)) (b i) := by
    by_cases hne : x i = -1000000000000000
    · rw [hne]; have := hblow i hi; omega
    · obtain ⟨l, hl, hbl, hw, hlo⟩ := far i hi hne
      have step : ∀ k, k < n → A i k ≠ -1000000000000000 → x i - A i k ≤ x k → x i ≤ mx n fun k => times (A i k) (x k) := fun k hk ha hxk => by
        have hav := hA i k hi hk ha
        have hxi := (isVal_iff.1 (hv i hi)).resolve_left hne
        have h4 := hmx.2 k hk
        rw [times_of ha (by omega)] at h4
        omega
      rcases hw with ⟨rfl, e0⟩ | ⟨m, m1, m2, m3⟩
      · omega
      · cases m with
        | nil =>
          have m3 : A i l = x i - b l := m3
          have := step l hl m2 (by have := hge l hl; omega)
          omega
        | cons k m =>
          have m3 : A i k + wt A k m l = x i - b l := m3
          have hk := (lo_cons.1 m1).1
          have hav := hA i k hi hk m2.1
          have := use k l (wt A k m l) hk hl (.inr ⟨m, (lo_cons.1 m1).2, m2.2, rfl⟩) (by omega) hbl
          have := step k hk m2.1 (by omega)
          omega
  have := hge i hi
  omega
theorem pot_is {x : List (List Int)} {r : Int × Int} (h : (potV x r).2 = 0) : isPotV x r (potV x r).1 = true := by
  have h1 : (isSq x && isRat r) = true := by
    cases e : isSq x && isRat r
    · unfold potV at h; rw [e] at h; simp at h
    · rfl
  have h2 : starB (ent (shiftM x r.1 r.2)) x.length = true := by
    cases e : starB (ent (shiftM x r.1 r.2)) x.length
    · unfold potV at h; rw [h1, e] at h; simp at h
    · rfl
  have hf : potV x r = chkX (mkRow x.length (appF x.length (starM (shiftM x r.1 r.2) x.length) (zeros x.length))) := by unfold potV; rw [h1, h2]; rfl
  rw [Bool.and_eq_true] at h1
  have hall : allV (mkRow x.length (appF x.length (starM (shiftM x r.1 r.2) x.length) (zeros x.length))) = true := by
    cases e : allV (mkRow x.length (appF x.length (starM (shiftM x r.1 r.2) x.length) (zeros x.length)))
    · rw [hf] at h; unfold chkX at h; rw [e] at h; simp at h
    · rfl
  have hf1 : (potV x r).1 = mkRow x.length (appF x.length (starM (shiftM x r.1 r.2) x.length) (zeros x.length)) := by rw [hf]; unfold chkX; rw [hall]; rfl
  rw [hf1]
  obtain ⟨hr1, hr2⟩ := isRat_bd2 h1.2
  have hn : -100000000 ≤ r.1 ∧ r.1 ≤ 100000000 := by omega
  have hd : -1000000 ≤ r.2 ∧ r.2 ≤ 1000000 := by omega
  have hA := shift_abdW h1.1 hn hd
  have hpos := fun i hi => pot_nonneg hA h2 (i := i) hi
  have hE := fix_eqW (A := ent (shiftM x r.1 r.2)) (S := fwS (ent (shiftM x r.1 r.2)) x.length) (n := x.length) (b := nth (zeros x.length)) (x := nth (mkRow x.length (appF x.length (starM (shiftM x r.1 r.2) x.length) (zeros x.length)))) (star_isStar hA h2)
    (fun i j _ _ hne => by have := hA.bd i j hne; omega) (fun k _ => by rw [zeros_nth]; decide) (fun i hi => by
      rw [mkRow_nth hi]; unfold appF
      refine mx_congr fun k hk => ?_
      unfold starM; rw [mkMat_ent hi hk]) (fun i hi => allV_iff.1 hall i (by rw [mkRow_len]; exact hi))
  have hallF := pot_all hA h2
  rw [hall] at hallF
  unfold isPotV potL
  rw [h1.1, h1.2, mkRow_len, ← allF_in, hallF]
  simp only [Bool.and_self, Bool.true_and, beq_self_eq_true]
  rw [potB_iff]
  intro i j hi hj
  unfold potAt
  rw [Bool.or_eq_true, beq_iff_eq, decide_eq_true_iff]
  by_cases e : shiftE x r.1 r.2 i j = -1000000000000000
  · exact .inl e
  · right
    have e2 : ent (shiftM x r.1 r.2) i j = shiftE x r.1 r.2 i j := mkMat_ent hi hj
    have h3 := (mx_spec (n := x.length) (f := fun k => times (ent (shiftM x r.1 r.2) i k) (nth (mkRow x.length (appF x.length (starM (shiftM x r.1 r.2) x.length) (zeros x.length))) k))).2 j hj
    have hpj := hpos j hj
    have hxj : nth (mkRow x.length (appF x.length (starM (shiftM x r.1 r.2) x.length) (zeros x.length))) j = appF x.length (starM (shiftM x r.1 r.2) x.length) (zeros x.length) j := mkRow_nth hj
    rw [times_of (by rw [e2]; exact e) (by rw [hxj]; omega), e2] at h3
    have h4 := hE i hi
    omega
theorem pot_code {x : List (List Int)} {r : Int × Int} (h0 : (tabV x).2 = 0) (h1 : (potV x r).2 ≠ 1) : (cmpRV (tabV x).1 r).2 = 0 ∧ ((potV x r).2 == 5) = decide (0 < (cmpRV (tabV x).1 r).1) := by
  have h2 : (isSq x && isRat r) = true := by
    cases e : isSq x && isRat r
    · unfold potV at h1; rw [e] at h1; simp at h1
    · rfl
  have h3 := h2
  rw [Bool.and_eq_true] at h3
  obtain ⟨hr1, hr2⟩ := isRat_bd2 h3.2
  cases hb : bestO x x.length with
  | none => unfold tabV at h0; rw [h3.1, hb] at h0; simp [optT] at h0
  | some R =>
    have hR : isRat R = true := by
      cases e : isRat R
      · unfold tabV at h0; rw [h3.1, hb] at h0; simp [optT, chkR, e] at h0
      · rfl
    have ht : (tabV x).1 = R := by unfold tabV; rw [h3.1, hb]; simp [optT, chkR, hR]
    rw [ht]
    have hc : cmpRV R r = (cmpR R r, 0) := by unfold cmpRV; rw [hR, h3.2]; rfl
    rw [hc]
    refine ⟨rfl, ?_⟩
    have hs := star_mean h3.1 hb hr1 hr2
    have hgt : 0 < cmpR R r ↔ ¬ R.1 * r.2 ≤ r.1 * R.2 := by rw [cmpR_gt]; rfl
    rw [Bool.eq_iff_iff, beq_iff_eq, decide_eq_true_iff, hgt, ← hs]
    unfold potV
    rw [h2]
    cases e : starB (ent (shiftM x r.1 r.2)) x.length
    · simp
    · simp only [if_true]
      unfold chkX
      constructor
      · intro h; split at h <;> simp at h
      · intro h; simp at h
end Go.Proofs.Ytokhkpbebimohaa
