/- Plain law: the program's star and the reference's are the same, and so is whether there is one. No program in sight. -/
import Derived.Test.YtljchmkoafahgaaK1
namespace Go.Proofs.Ytljchmkoafahgaa
set_option linter.unusedVariables false

def fwS (A : Nat → Nat → Int) : Nat → Nat → Nat → Int
  | 0 => fun i j => max (A i j) (unitF i j)
  | k + 1 => fwF k (fwS A k)
/-- the checks ahead of the stages below k -/
def fwB (A : Nat → Nat → Int) (k : Nat) : Bool := (List.range k).all fun i => decide (fwS A i i i ≤ 0)
def fwD (A : Nat → Nat → Int) (n k : Nat) : Bool := (List.range k).all fun i => decide (fwS A n i i ≤ 0)
theorem fwB_succ (A : Nat → Nat → Int) (k : Nat) : fwB A (k + 1) = (fwB A k && decide (fwS A k k k ≤ 0)) := by unfold fwB; simp [List.range_succ, List.all_append]
theorem fwD_succ (A : Nat → Nat → Int) (n k : Nat) : fwD A n (k + 1) = (fwD A n k && decide (fwS A n k k ≤ 0)) := by unfold fwD; simp [List.range_succ, List.all_append]
def starB (A : Nat → Nat → Int) (n : Nat) : Bool := fwB A n && fwD A n n
theorem starB_no1 {A : Nat → Nat → Int} {n k : Nat} (hk : k < n) (h : ¬ fwS A k k k ≤ 0) : starB A n = false := by
  cases e : starB A n
  · rfl
  · unfold starB fwB at e
    rw [Bool.and_eq_true, List.all_eq_true] at e
    have := e.1 k (List.mem_range.2 hk)
    simp only [decide_eq_true_eq] at this
    exact absurd this h
theorem starB_no2 {A : Nat → Nat → Int} {n k : Nat} (hk : k < n) (h : ¬ fwS A n k k ≤ 0) : starB A n = false := by
  cases e : starB A n
  · rfl
  · unfold starB fwD at e
    rw [Bool.and_eq_true, List.all_eq_true] at e
    have := e.2 k (List.mem_range.2 hk)
    simp only [decide_eq_true_eq] at this
    exact absurd this h
/-- the bounds of a matrix -/
structure ABd (A : Nat → Nat → Int) (n : Nat) (M : Int) : Prop where
  pos : 0 ≤ M
  bd : ∀ i j, A i j ≠ -1000000000000000 → -M ≤ A i j ∧ A i j ≤ M
  top : M * ((n : Int) + 2) ≤ 100000000000000
theorem ABd.le {A : Nat → Nat → Int} {n : Nat} {M : Int} (h : ABd A n M) {k : Nat} (hk : k ≤ n + 1) : M * ((k : Int) + 1) ≤ 100000000000000 := by
  have := mul_mono h.pos (show (k : Int) + 1 ≤ (n : Int) + 2 by omega); have := h.top; omega
theorem ABd.one {A : Nat → Nat → Int} {n : Nat} {M : Int} (h : ABd A n M) : M ≤ 100000000000000 := by
  have := h.le (k := 0) (by omega); omega
theorem fw_inv {A : Nat → Nat → Int} {n : Nat} {M : Int} (h : ABd A n M) : ∀ k, k ≤ n → fwB A k = true → FW A n k (fwS A k)
  | 0, _, _ => FW.start A n (fun _ _ _ _ => rfl) fun i j hne => by have := h.bd i j hne; have := h.one; omega
  | k + 1, hk, hb => by
    rw [fwB_succ, Bool.and_eq_true, decide_eq_true_eq] at hb
    exact (fw_inv h k (by omega) hb.1).step (by omega) hb.2 h.pos h.bd (h.le (by omega))
theorem fw_bd {A : Nat → Nat → Int} {n k : Nat} {M : Int} (h : ABd A n M) (hk : k ≤ n) (hb : fwB A k = true) {i j : Nat} (hi : i < n) (hj : j < n) : -1000000000000000 ≤ fwS A k i j ∧ fwS A k i j ≤ 100000000000000 := by
  have hF := fw_inv h k hk hb
  have := h.le (k := n) (by omega)
  rcases Classical.em (fwS A k i j = -1000000000000000) with e | e
  · omega
  · have := hF.bd hk h.pos h.bd hi hj e; omega
theorem fw_diag {A : Nat → Nat → Int} {n k : Nat} {M : Int} (h : ABd A n M) (hk : k < n) (hb : fwB A k = true) (hd : fwS A k k k ≤ 0) : fwS A k k k = 0 := by
  have := (fw_inv h k (by omega) hb).diag k hk; omega
theorem fwF_col {k : Nat} {S : Nat → Nat → Int} (h : S k k = 0) (i : Nat) (hb : -1000000000000000 ≤ S i k) : fwF k S i k = S i k := by
  unfold fwF times; rw [h]; split <;> omega
theorem fwF_row {k : Nat} {S : Nat → Nat → Int} (h : S k k = 0) (j : Nat) (hb : -1000000000000000 ≤ S k j) : fwF k S k j = S k j := by
  unfold fwF times; rw [h]; split <;> omega

def rdS (n : Nat) (A : Nat → Nat → Int) : Nat → Nat → Nat → Int
  | 0 => unitF
  | k + 1 => roundF n A (rdS n A k)
theorem rd_top {A : Nat → Nat → Int} {n : Nat} {M : Int} (h : ABd A n M) : ∀ k, k ≤ n + 1 → ∀ i j, i < n → j < n → Top (WPk A n k i j) (rdS n A k i j)
  | 0, _ => round_start A n
  | k + 1, hk => round_top h.pos h.bd (h.le (by omega)) (rd_top h k (by omega))
theorem rd_bd {A : Nat → Nat → Int} {n : Nat} {M : Int} (h : ABd A n M) {k : Nat} (hk : k ≤ n + 1) {i j : Nat} (hi : i < n) (hj : j < n) : -1000000000000000 ≤ rdS n A k i j ∧ rdS n A k i j ≤ 100000000000000 ∧ (rdS n A k i j ≠ -1000000000000000 → -100000000000000 ≤ rdS n A k i j) := by
  rcases rd_top h k hk i j hi hj with ⟨e, _⟩ | ⟨h1, _⟩
  · rw [e]; omega
  · rcases h1 with ⟨_, e⟩ | ⟨m, a1, a2, a3, a4⟩
    · rw [e]; omega
    · have := wt_bd h.bd a3
      have := mul_mono h.pos (show (m.length : Int) + 1 ≤ (k : Int) + 1 by omega)
      have := h.le hk
      omega
theorem NoPos.of_star {A : Nat → Nat → Int} {n : Nat} {M : Int} (h : ABd A n M) (hs : starB A n = true) : NoPos A n := by
  unfold starB at hs
  rw [Bool.and_eq_true] at hs
  exact (fw_inv h n (Nat.le_refl _) hs.1).none
theorem star_of_NoPos {A : Nat → Nat → Int} {n : Nat} {M : Int} (h : ABd A n M) (hN : NoPos A n) : starB A n = true := by
  have hB : ∀ k, k ≤ n → fwB A k = true := by
    intro k
    induction k with
    | zero => intro _; rfl
    | succ k ih =>
      intro hk
      have h1 := ih (by omega)
      rw [fwB_succ, h1, Bool.true_and, decide_eq_true_eq]
      rcases Classical.em (fwS A k k k ≤ 0) with e | e
      · exact e
      · exact absurd hN ((fw_inv h k (by omega) h1).pos (by omega) (show k < n by omega) (by omega))
  have h1 := hB n (Nat.le_refl _)
  unfold starB
  rw [h1, Bool.true_and]
  unfold fwD
  rw [List.all_eq_true]
  intro k hk
  have hk := List.mem_range.1 hk
  rw [decide_eq_true_eq]
  rcases Classical.em (fwS A n k k ≤ 0) with e | e
  · exact e
  · exact absurd hN ((fw_inv h n (Nat.le_refl _) h1).pos (Nat.le_refl _) hk (by omega))
theorem starB_iff {A : Nat → Nat → Int} {n : Nat} {M : Int} (h : ABd A n M) : starB A n = true ↔ NoPos A n := ⟨NoPos.of_star h, star_of_NoPos h⟩
/-- the reference's test -/
theorem rd_fix {A : Nat → Nat → Int} {n : Nat} {M : Int} (h : ABd A n M) : (∀ i j, i < n → j < n → rdS n A n i j = rdS n A (n + 1) i j) ↔ starB A n = true := by
  rw [starB_iff h]
  constructor
  · intro e
    exact fix_nopos h.pos h.bd h.one (fun i j hi hj hne => by have := rd_bd h (k := n) (by omega) hi hj; exact ⟨this.2.2 hne, this.2.1⟩) e
  · intro hN
    exact star_fix h.pos h.bd (h.le (by omega)) hN (Nat.le_refl n) (rd_top h n (by omega))
theorem star_isStar {A : Nat → Nat → Int} {n : Nat} {M : Int} (h : ABd A n M) (hs : starB A n = true) : IsStar A n (fwS A n) := by
  unfold starB at hs
  rw [Bool.and_eq_true] at hs
  exact (fw_inv h n (Nat.le_refl _) hs.1).star
theorem star_eq {A : Nat → Nat → Int} {n : Nat} {M : Int} (h : ABd A n M) (hs : starB A n = true) : ∀ i j, i < n → j < n → rdS n A n i j = fwS A n i j := fun i j hi hj =>
  (star_of_round (NoPos.of_star h hs) (Nat.le_refl n) (rd_top h n (by omega)) i j hi hj).eq (star_isStar h hs i j hi hj)
end Go.Proofs.Ytljchmkoafahgaa
