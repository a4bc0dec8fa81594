/- Plain law: reaching. The program's closure and the reference's rounds find the same nodes. No program in sight. -/
import Derived.Test.YtljchmkoafahgaaK1
namespace Go.Proofs.Ytljchmkoafahgaa
set_option linter.unusedVariables false

/-- an arc from i to j, or i = j -/
def eB (a : List (List Int)) (i j : Nat) : Bool := i == j || ent a j i != -1000000000000000
/-- the closure over the nodes below k -/
def wB (a : List (List Int)) : Nat → Nat → Nat → Bool
  | 0, i, j => eB a i j
  | k + 1, i, j => wB a k i j || (wB a k i k && wB a k k j)
/-- arcs without their weights -/
def zA (a : List (List Int)) (i j : Nat) : Int := if ent a i j = -1000000000000000 then -1000000000000000 else 0
theorem zA_ne {a : List (List Int)} {i j : Nat} : zA a i j ≠ -1000000000000000 ↔ ent a i j ≠ -1000000000000000 := by
  unfold zA; split <;> simp_all
theorem zA_bd {a : List (List Int)} (i j : Nat) (h : zA a i j ≠ -1000000000000000) : -(0 : Int) ≤ zA a i j ∧ zA a i j ≤ 0 := by
  have := zA_ne.1 h; unfold zA; rw [if_neg this]; omega
theorem z_nopos (a : List (List Int)) (n : Nat) : NoPos (zA a) n := fun v m hv hm hw => by
  have := wt_bd zA_bd hw; simp only [Int.zero_mul] at this; omega
/-- f reaches t -/
def RP (a : List (List Int)) (n f t : Nat) : Prop := f = t ∨ ∃ m, lo n m ∧ wk (zA a) t m f
theorem RP.ext {a : List (List Int)} {n f k i : Nat} (h : RP a n f k) (hk : k < n) (ha : ent a i k ≠ -1000000000000000) : RP a n f i := by
  rcases h with rfl | ⟨m, h1, h2⟩
  · exact .inr ⟨[], lo_nil _, zA_ne.2 ha⟩
  · exact .inr ⟨k :: m, lo_cons.2 ⟨hk, h1⟩, zA_ne.2 ha, h2⟩
theorem RP.trans {a : List (List Int)} {n f k t : Nat} (h : RP a n f k) (g : RP a n k t) (hk : k < n) : RP a n f t := by
  rcases h with rfl | ⟨m, h1, h2⟩
  · exact g
  · rcases g with rfl | ⟨m', g1, g2⟩
    · exact .inr ⟨m, h1, h2⟩
    · exact .inr ⟨m' ++ k :: m, by rw [lo_app, lo_cons]; exact ⟨g1, hk, h1⟩, by rw [wk_app]; exact ⟨g2, h2⟩⟩
theorem RP.short {a : List (List Int)} {n f t : Nat} (h : RP a n f t) (ht : t < n) : f = t ∨ ∃ m, m.length + 1 ≤ n ∧ lo n m ∧ wk (zA a) t m f := by
  rcases h with h | ⟨m, h1, h2⟩
  · exact .inl h
  · obtain ⟨m', a1, a2, _, a4, _⟩ := simple (z_nopos a n) m t ht h1 h2
    exact .inr ⟨m', simple_len a1 ht a2, a2, a4⟩

theorem wB_sound {a : List (List Int)} {n k : Nat} (hk : k ≤ n) {i j : Nat} (h : wB a k i j = true) : RP a n i j := by
  induction k generalizing i j with
  | zero =>
    unfold wB eB at h
    simp only [Bool.or_eq_true, beq_iff_eq, bne_iff_ne, ne_eq] at h
    rcases h with h | h
    · exact .inl h
    · exact .inr ⟨[], lo_nil _, zA_ne.2 h⟩
  | succ k ih =>
    unfold wB at h
    simp only [Bool.or_eq_true, Bool.and_eq_true] at h
    rcases h with h | ⟨h1, h2⟩
    · exact ih (by omega) h
    · exact (ih (by omega) h1).trans (ih (by omega) h2) (by omega)
theorem wB_mono {a : List (List Int)} {k : Nat} {i j : Nat} (h : eB a i j = true) : wB a k i j = true := by
  induction k with
  | zero => exact h
  | succ k ih => unfold wB; rw [ih]; rfl
theorem wB_closed {a : List (List Int)} {k m : Nat} (hm : m < k) {i j : Nat} (h1 : wB a k i m = true) (h2 : wB a k m j = true) : wB a k i j = true := by
  induction k generalizing i j m with
  | zero => exact absurd hm (Nat.not_lt_zero _)
  | succ k ih =>
    unfold wB at h1 h2 ⊢
    simp only [Bool.or_eq_true, Bool.and_eq_true] at h1 h2 ⊢
    by_cases e : m = k
    · subst e
      have a1 : wB a m i m = true := by rcases h1 with h | h; exact h; exact h.1
      have a2 : wB a m m j = true := by rcases h2 with h | h; exact h; exact h.2
      exact .inr ⟨a1, a2⟩
    · have hm' : m < k := by omega
      rcases h1 with h1 | ⟨h1, h1'⟩ <;> rcases h2 with h2 | ⟨h2, h2'⟩
      · exact .inl (ih hm' h1 h2)
      · exact .inr ⟨ih hm' h1 h2, h2'⟩
      · exact .inr ⟨h1, ih hm' h1' h2⟩
      · exact .inr ⟨h1, h2'⟩
theorem wB_iff {a : List (List Int)} {n i j : Nat} (hi : i < n) (hj : j < n) : wB a n i j = true ↔ RP a n i j := by
  refine ⟨wB_sound (Nat.le_refl _), fun h => ?_⟩
  rcases h with rfl | ⟨m, h1, h2⟩
  · exact wB_mono (by unfold eB; simp)
  · induction m generalizing j with
    | nil => exact wB_mono (by unfold eB; have := zA_ne.1 h2; simp [this])
    | cons k m ih =>
      have hk := lo_cons.1 h1
      exact wB_closed hk.1 (ih hk.1 hk.2 h2.2) (wB_mono (by unfold eB; have := zA_ne.1 h2.1; simp [this]))
/-- in stage k the entries of row k and of column k stay -/
theorem wB_col (a : List (List Int)) (k i : Nat) : wB a (k + 1) i k = wB a k i k := by
  simp only [wB]; cases wB a k i k <;> simp
theorem wB_row (a : List (List Int)) (k j : Nat) : wB a (k + 1) k j = wB a k k j := by
  simp only [wB]; cases wB a k k j <;> simp
theorem wB_refl (a : List (List Int)) (k i : Nat) : wB a k i i = true := wB_mono (by unfold eB; simp)

/-- the reference's row after r passes: sound, and it has all that r arcs reach -/
def RoundOk (a : List (List Int)) (n v r : Nat) (row : Nat → Bool) : Prop :=
  (∀ i, i < n → row i = true → RP a n v i) ∧ row v = true ∧ ∀ i m, i < n → lo n m → wk (zA a) i m v → m.length + 1 ≤ r → row i = true
theorem RoundOk.done {a : List (List Int)} {n v : Nat} {row : Nat → Bool} (h : RoundOk a n v n row) (hv : v < n) {i : Nat} (hi : i < n) : row i = wB a n v i := by
  rw [Bool.eq_iff_iff, wB_iff hv hi]
  refine ⟨h.1 i hi, fun g => ?_⟩
  rcases g.short hi with rfl | ⟨m, g1, g2, g3⟩
  · exact h.2.1
  · exact h.2.2 i m hi g2 g3 g1

/-- the nodes that a node reaches and is reached from; the components -/
def ownC (R : Nat → Nat → Bool) (i : Nat) : Nat → List Int
  | 0 => []
  | j + 1 => if R i j && R j i then ownC R i j ++ [(j : Int)] else ownC R i j
def compsM (R : Nat → Nat → Bool) (n : Nat) : Nat → List (List Int)
  | 0 => []
  | i + 1 => if nth (ownC R i n) 0 = (i : Int) then compsM R n i ++ [ownC R i n] else compsM R n i
theorem ownC_len (R : Nat → Nat → Bool) (i j : Nat) : (ownC R i j).length ≤ j := by
  induction j with
  | zero => simp [ownC]
  | succ j ih =>
    simp only [ownC]; split
    · simp; omega
    · omega
theorem ownC_pos {R : Nat → Nat → Bool} {i : Nat} (h : R i i = true) {j : Nat} (hj : i < j) : 0 < (ownC R i j).length := by
  induction j with
  | zero => omega
  | succ j ih =>
    simp only [ownC]
    by_cases e : j = i
    · subst e; rw [h]; simp
    · have := ih (by omega)
      split
      · simp
      · exact this
theorem compsM_len (R : Nat → Nat → Bool) (n i : Nat) : (compsM R n i).length ≤ i := by
  induction i with
  | zero => simp [compsM]
  | succ i ih =>
    simp only [compsM]; split
    · simp; omega
    · omega
theorem compsM_tot (R : Nat → Nat → Bool) (n i : Nat) : tot (compsM R n i) ≤ i * n := by
  induction i with
  | zero => simp [compsM, tot]
  | succ i ih =>
    simp only [compsM]
    have := ownC_len R i n
    rw [Nat.succ_mul]
    split
    · rw [tot_append]; simp only [tot]; omega
    · omega
def compV (x : List (List Int)) : List (List Int) × Int := if isSq x then (compsM (wB x x.length) x.length x.length, 0) else ([], 1)
theorem compV_tot (x : List (List Int)) : tot (compV x).1 ≤ 1000000 := by
  unfold compV; split
  · rename_i h
    have := isSq_rect h
    have h1 := compsM_tot (wB x x.length) x.length x.length
    have h2 := Nat.mul_le_mul this.2.2 this.2.2
    show tot (compsM (wB x x.length) x.length x.length) ≤ 1000000
    omega
  · simp [tot]
def irrV (x : List (List Int)) : Bool × Int := if isSq x then (decide ((compsM (wB x x.length) x.length x.length).length = 1), 0) else (false, 1)
def canV (x : List (List Int)) (f t : Int) : Bool × Int := if isSq x then (if inR f 0 ((x.length : Int) - 1) && inR t 0 ((x.length : Int) - 1) then (wB x x.length f.toNat t.toNat, 0) else (false, 2)) else (false, 1)
end Go.Proofs.Ytljchmkoafahgaa
