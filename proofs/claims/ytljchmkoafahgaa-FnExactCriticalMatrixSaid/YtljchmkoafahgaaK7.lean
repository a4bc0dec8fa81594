/- Plain law: there is a greatest mean of a cycle, or no cycle at all; a matrix shifted by the greatest mean has no positive closed walk. No program is entered. -/
import Derived.Test.YtljchmkoafahgaaK6
namespace Go.Proofs.Ytljchmkoafahgaa
set_option linter.unusedVariables false

theorem wt_fw (A : Nat → Nat → Int) : ∀ (m : List Nat) (i j : Nat), wt A i m j = fw A (i :: (m ++ [j]))
  | [], i, j => by show A i j = A i j + 0; omega
  | k :: m, i, j => by
    have ih := wt_fw A m k j
    simp only [wt, List.cons_append]
    show _ = A i k + fw A (k :: (m ++ [j]))
    rw [ih]
theorem wk_fk (A : Nat → Nat → Int) : ∀ (m : List Nat) (i j : Nat), wk A i m j ↔ fk A (i :: (m ++ [j]))
  | [], i, j => by show A i j ≠ _ ↔ (A i j ≠ _ ∧ True); exact (and_true _).symm ▸ Iff.rfl
  | k :: m, i, j => by
    have ih := wk_fk A m k j
    simp only [wk, List.cons_append]
    show _ ↔ (A i k ≠ _ ∧ fk A (k :: (m ++ [j])))
    rw [ih]

theorem best_ex {x : List (List Int)} (h : isSq x = true) : (bestO x x.length = none ∧ ∀ f m, ¬ Cy (ent x) x.length f m) ∨
    ∃ f m, Cy (ent x) x.length f m ∧ bestO x x.length = some (mn (ent x) f m) ∧ ∀ g k, Cy (ent (shiftM x (mn (ent x) f m).1 (mn (ent x) f m).2)) x.length g k → cw (ent (shiftM x (mn (ent x) f m).1 (mn (ent x) f m).2)) g k ≤ 0 := by
  by_cases hex : ∃ f m, Cy (ent x) x.length f m
  · right
    obtain ⟨f, m, hc⟩ := hex
    have key : ∀ (N : Nat) (f : Nat) (m : List Nat), Cy (ent x) x.length f m → 2520000000 - zM (cw (ent x) f m) ((m.length : Int) + 1) ≤ (N : Int) →
        ∃ f m, Cy (ent x) x.length f m ∧ bestO x x.length = some (mn (ent x) f m) ∧ ∀ g k, Cy (ent (shiftM x (mn (ent x) f m).1 (mn (ent x) f m).2)) x.length g k → cw (ent (shiftM x (mn (ent x) f m).1 (mn (ent x) f m).2)) g k ≤ 0 := by
      intro N
      induction N with
      | zero =>
        intro f m hc hN
        have hno : ∀ g k, Cy (ent (shiftM x (mn (ent x) f m).1 (mn (ent x) f m).2)) x.length g k → cw (ent (shiftM x (mn (ent x) f m).1 (mn (ent x) f m).2)) g k ≤ 0 := fun g k hk => by
          refine Classical.byContradiction fun hcon => ?_
          have := zM_inc h hc ((cw_shift h hc hk.lo).1.1 hk) (by omega)
          omega
        exact ⟨f, m, hc, best_of_none h hc hno, hno⟩
      | succ N ih =>
        intro f m hc hN
        by_cases hno : ∀ g k, Cy (ent (shiftM x (mn (ent x) f m).1 (mn (ent x) f m).2)) x.length g k → cw (ent (shiftM x (mn (ent x) f m).1 (mn (ent x) f m).2)) g k ≤ 0
        · exact ⟨f, m, hc, best_of_none h hc hno, hno⟩
        · obtain ⟨g, hg⟩ := Classical.not_forall.1 hno
          obtain ⟨k, hg⟩ := Classical.not_forall.1 hg
          obtain ⟨hk, hg⟩ := Classical.not_imp.1 hg
          have hk' := (cw_shift h hc hk.lo).1.1 hk
          have := zM_inc h hc hk' (by omega)
          exact ih g k hk' (by omega)
    exact key (2520000000 - zM (cw (ent x) f m) ((m.length : Int) + 1)).toNat f m hc (by omega)
  · left
    have hn : ∀ f m, ¬ Cy (ent x) x.length f m := fun f m hc => hex ⟨f, m, hc⟩
    exact ⟨over_none h fun f m hc => absurd hc (hn f m), hn⟩

/-- the ratio's bounds, and no positive closed walk in the matrix shifted by it -/
theorem best_facts {x : List (List Int)} (h : isSq x = true) {R : Int × Int} (hb : bestO x x.length = some R) :
    ((-100000000 ≤ R.1 ∧ R.1 ≤ 100000000) ∧ (1 ≤ R.2 ∧ R.2 ≤ 1000000)) ∧ NoPos (ent (shiftM x R.1 R.2)) x.length ∧ ∃ f m, Cy (ent x) x.length f m ∧ mn (ent x) f m = R := by
  rcases best_ex h with ⟨h1, _⟩ | ⟨f, m, hc, h2, hno⟩
  · rw [h1] at hb; cases hb
  · rw [h2] at hb
    simp only [Option.some.injEq] at hb
    subst hb
    have b := mn_bd h hc
    have z := (mn_zero (x := x) (f := f) (m := m)).2.1
    refine ⟨⟨b.1, by omega⟩, fun v k hv hk hw => ?_, f, m, hc, rfl⟩
    rw [wk_fk] at hw
    refine Classical.byContradiction fun hcon => ?_
    rw [wt_fw] at hcon
    obtain ⟨z, k2, g1, g2, g3, g4, g5⟩ := simple_cycle (A := ent (shiftM x (mn (ent x) f m).1 (mn (ent x) f m).2)) (n := x.length) (q := 1) (p := 0) k.length v k (Nat.le_refl _) (lo_cons.2 ⟨hv, hk⟩) hw (by omega)
    have := hno z k2 ⟨g1, g2, g3, g4⟩
    unfold cw at this
    omega
theorem shift_abdW {x : List (List Int)} (h : isSq x = true) {num den : Int} (hn : -100000000 ≤ num ∧ num ≤ 100000000) (hd : -1000000 ≤ den ∧ den ≤ 1000000) : ABd (ent (shiftM x num den)) x.length 2000000000000 := by
  have hl := isSq_rect h
  exact ⟨by omega, fun i j hne => by have := (YOk.of_shift h hn hd).bd i j hne; omega, by omega⟩
theorem best_star {x : List (List Int)} (h : isSq x = true) {R : Int × Int} (hb : bestO x x.length = some R) : starB (ent (shiftM x R.1 R.2)) x.length = true := by
  obtain ⟨⟨b1, b2⟩, hN, _⟩ := best_facts h hb
  exact star_of_NoPos (shift_abdW h b1 (by omega)) hN
end Go.Proofs.Ytljchmkoafahgaa
