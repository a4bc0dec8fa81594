/- Plain law: an arc is critical exactly if it lies on a closed walk that weighs nothing; the components of the critical arcs. No program is entered. -/
import Derived.Test.YtljchmkoafahgaaK7
import Derived.Test.YtljchmkoafahgaaR1
import Derived.Test.YtljchmkoafahgaaR2
namespace Go.Proofs.Ytljchmkoafahgaa
set_option linter.unusedVariables false

/-- is the entry of row i and column j critical: in the shifted matrix b with the star s -/
def keepB (b s : List (List Int)) (i j : Nat) : Bool := !(ent b i j == -1000000000000000) && !(ent s j i == -1000000000000000) && (ent b i j + ent s j i == 0)
theorem keepB_iff {b s : List (List Int)} {i j : Nat} : keepB b s i j = true ↔ ent b i j ≠ -1000000000000000 ∧ ent s j i ≠ -1000000000000000 ∧ ent b i j + ent s j i = 0 := by
  unfold keepB
  rw [Bool.and_eq_true, Bool.and_eq_true, Bool.not_eq_true', Bool.not_eq_true', beq_eq_false_iff_ne, beq_eq_false_iff_ne, beq_iff_eq, and_assoc]
def critE (x : List (List Int)) (R : Int × Int) (i j : Nat) : Int :=
  if keepB (shiftM x R.1 R.2) (starM (shiftM x R.1 R.2) x.length) i j then ent x i j else -1000000000000000
def critM (x : List (List Int)) (R : Int × Int) : List (List Int) := mkMat x.length x.length (critE x R)
theorem critM_ent {x : List (List Int)} {R : Int × Int} {i j : Nat} (hi : i < x.length) (hj : j < x.length) : ent (critM x R) i j = critE x R i j := mkMat_ent hi hj
theorem critM_len (x : List (List Int)) (R : Int × Int) : (critM x R).length = x.length := mkMat_len _ _ _

section
variable {x : List (List Int)} (h : isSq x = true) {R : Int × Int} (hb : bestO x x.length = some R)
include h hb
omit hb in
theorem crit_sq : isSq (critM x R) = true := by
  have hr := isSq_rect h
  have hv : isMat (critM x R) = true := by
    unfold critM
    rw [isMat_mk _ hr.2.1 hr.2.2 hr.2.1 hr.2.2]
    unfold allM
    rw [all_iff_row]; intro i hi
    rw [mkMat_len] at hi
    rw [mkMat_row hi, allV_iff]; intro j hj
    rw [mkRow_len] at hj
    rw [mkRow_nth hj]
    unfold critE
    split
    · exact isSq_val h hi hj
    · decide
  have h0 : (row (critM x R) 0).length = (critM x R).length := by
    rw [critM_len]; unfold critM; rw [mkMat_row (by omega), mkRow_len]
  unfold isSq; rw [hv, h0]; simp
theorem keep_walk {i j : Nat} (hi : i < x.length) (hj : j < x.length) :
    keepB (shiftM x R.1 R.2) (starM (shiftM x R.1 R.2) x.length) i j = true ↔ ∃ m, lo x.length m ∧ wk (ent (shiftM x R.1 R.2)) i (j :: m) i ∧ wt (ent (shiftM x R.1 R.2)) i (j :: m) i = 0 := by
  obtain ⟨⟨b1, b2⟩, hN, _⟩ := best_facts h hb
  have hA := shift_abdW h b1 (den := R.2) (by omega)
  have hS := star_isStar hA (best_star h hb) j i hj hi
  have he : ent (starM (shiftM x R.1 R.2) x.length) j i = fwS (ent (shiftM x R.1 R.2)) x.length j i := mkMat_ent hj hi
  rw [keepB_iff, he]
  generalize fwS (ent (shiftM x R.1 R.2)) x.length j i = S at *
  generalize hB : ent (shiftM x R.1 R.2) = B at *
  constructor
  · rintro ⟨h1, h2, h3⟩
    rcases hS with ⟨e, _⟩ | ⟨hw, _⟩
    · exact absurd e h2
    · rcases hw with ⟨rfl, e⟩ | ⟨m, m1, m2, m3⟩
      · exact ⟨[], lo_nil _, ⟨h1, h1⟩, by show B j j + B j j = 0; omega⟩
      · exact ⟨m, m1, ⟨h1, m2⟩, by show B i j + wt B j m i = 0; omega⟩
  · rintro ⟨m, m1, m2, m3⟩
    have hw : WP B x.length j i (wt B j m i) := .inr ⟨m, m1, m2.2, rfl⟩
    have m3' : B i j + wt B j m i = 0 := m3
    rcases hS with ⟨_, hno⟩ | ⟨ha, hmx⟩
    · exact absurd hw (hno _)
    · have h1 := hmx _ hw
      have h2 : B i j + S ≤ 0 := by
        rcases ha with ⟨rfl, e⟩ | ⟨m', n1, n2, n3⟩
        · have := hN j [] hi (lo_nil _) m2.1
          have : B j j ≤ 0 := this
          omega
        · have := hN i (j :: m') hi (lo_cons.2 ⟨hj, n1⟩) ⟨m2.1, n2⟩
          have : B i j + wt B j m' i ≤ 0 := this
          omega
      have hbd := hA.bd i j m2.1
      exact ⟨m2.1, by omega, by omega⟩
theorem crit_ne {i j : Nat} (hi : i < x.length) (hj : j < x.length) : ent (critM x R) i j ≠ -1000000000000000 ↔ keepB (shiftM x R.1 R.2) (starM (shiftM x R.1 R.2) x.length) i j = true := by
  obtain ⟨⟨b1, b2⟩, hN, _⟩ := best_facts h hb
  rw [critM_ent hi hj]
  unfold critE
  by_cases hk : keepB (shiftM x R.1 R.2) (starM (shiftM x R.1 R.2) x.length) i j = true
  · rw [if_pos hk]
    have h1 := (keepB_iff.1 hk).1
    have e : ent (shiftM x R.1 R.2) i j = shiftE x R.1 R.2 i j := by unfold shiftM; exact mkMat_ent hi hj
    rw [e] at h1
    exact ⟨fun _ => hk, fun _ => (shiftE_ne h b1 (by omega)).1.1 h1⟩
  · rw [if_neg hk]
    exact ⟨fun e => absurd rfl e, fun e => absurd e hk⟩
/-- all arcs of a closed walk that weighs nothing are critical -/
theorem crit_walk {i : Nat} (hi : i < x.length) : ∀ (t : List Nat) (k : Nat) (s : List Nat), lo x.length (s ++ k :: t) → wk (ent (shiftM x R.1 R.2)) i (s ++ k :: t) i → wt (ent (shiftM x R.1 R.2)) i (s ++ k :: t) i = 0 →
    wk (zA (critM x R)) k t i
  | [], k, s, hl, hw, hz => by
    have hl' := lo_app.1 hl
    have hk := (lo_cons.1 hl'.2).1
    rw [wk_app] at hw
    rw [wt_app] at hz
    show zA _ k i ≠ _
    rw [zA_ne, crit_ne h hb hk hi, keep_walk h hb hk hi]
    refine ⟨s, hl'.1, ⟨hw.2, hw.1⟩, ?_⟩
    have e : wt (ent (shiftM x R.1 R.2)) k [] i = ent (shiftM x R.1 R.2) k i := rfl
    show ent (shiftM x R.1 R.2) k i + wt (ent (shiftM x R.1 R.2)) i s k = 0
    omega
  | y :: t, k, s, hl, hw, hz => by
    have hl' := lo_app.1 hl
    have hk := lo_cons.1 hl'.2
    have hy := lo_cons.1 hk.2
    have e0 : s ++ k :: y :: t = (s ++ [k]) ++ y :: t := by simp
    have ih := crit_walk hi t y (s ++ [k]) (by rw [← e0]; exact hl) (by rw [← e0]; exact hw) (by rw [← e0]; exact hz)
    rw [wk_app] at hw
    rw [wt_app] at hz
    refine ⟨?_, ih⟩
    rw [zA_ne, crit_ne h hb hk.1 hy.1, keep_walk h hb hk.1 hy.1]
    have e1 : y :: (t ++ i :: s) = (y :: t) ++ i :: s := rfl
    refine ⟨t ++ i :: s, lo_app.2 ⟨hy.2, lo_cons.2 ⟨hi, hl'.1⟩⟩, ?_, ?_⟩
    · rw [e1, wk_app]; exact ⟨hw.2, hw.1⟩
    · rw [e1, wt_app]; omega
/-- the ends of a critical arc reach each other -/
theorem crit_back {i j : Nat} (hi : i < x.length) (hj : j < x.length) (hc : ent (critM x R) i j ≠ -1000000000000000) : RP (critM x R) x.length i j ∧ RP (critM x R) x.length j i := by
  refine ⟨?_, .inr ⟨[], lo_nil _, zA_ne.2 hc⟩⟩
  obtain ⟨m, m1, m2, m3⟩ := (keep_walk h hb hi hj).1 ((crit_ne h hb hi hj).1 hc)
  exact .inr ⟨m, m1, crit_walk h hb hi m j [] (lo_cons.2 ⟨hj, m1⟩) m2 m3⟩
end
end Go.Proofs.Ytljchmkoafahgaa
