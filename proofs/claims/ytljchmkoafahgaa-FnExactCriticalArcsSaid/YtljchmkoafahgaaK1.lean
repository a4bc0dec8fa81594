/- Plain law: walks in a matrix. A walk from i to j goes over the nodes of a list m; its weight is the sum of its arcs. No program in sight. -/
import Derived.Test.YtljchmkoafahgaaP5
namespace Go.Proofs.Ytljchmkoafahgaa
set_option linter.unusedVariables false

/-- the weight of the walk i, m, j -/
def wt (A : Nat → Nat → Int) : Nat → List Nat → Nat → Int
  | i, [], j => A i j
  | i, k :: m, j => A i k + wt A k m j
/-- no arc of it is missing -/
def wk (A : Nat → Nat → Int) : Nat → List Nat → Nat → Prop
  | i, [], j => A i j ≠ -1000000000000000
  | i, k :: m, j => A i k ≠ -1000000000000000 ∧ wk A k m j
/-- all nodes below n -/
def lo (n : Nat) (m : List Nat) : Prop := ∀ x ∈ m, x < n
theorem lo_nil (n : Nat) : lo n [] := fun x h => by simp at h
theorem lo_cons {n k : Nat} {m : List Nat} : lo n (k :: m) ↔ k < n ∧ lo n m := by unfold lo; simp
theorem lo_app {n : Nat} {s t : List Nat} : lo n (s ++ t) ↔ lo n s ∧ lo n t := by
  unfold lo; constructor
  · intro h; exact ⟨fun x hx => h x (by simp [hx]), fun x hx => h x (by simp [hx])⟩
  · rintro ⟨h1, h2⟩ x hx; rcases List.mem_append.1 hx with h | h
    · exact h1 x h
    · exact h2 x h
theorem lo.mono {n k : Nat} {m : List Nat} (h : lo n m) (e : n ≤ k) : lo k m := fun x hx => Nat.lt_of_lt_of_le (h x hx) e
theorem lo.sub {n : Nat} {m m' : List Nat} (h : lo n m) (e : ∀ x ∈ m', x ∈ m) : lo n m' := fun x hx => h x (e x hx)

variable {A : Nat → Nat → Int}
theorem wt_app (i : Nat) (s : List Nat) (k : Nat) (t : List Nat) (j : Nat) : wt A i (s ++ k :: t) j = wt A i s k + wt A k t j := by
  induction s generalizing i with
  | nil => rfl
  | cons x s ih => simp only [List.cons_append, wt, ih]; omega
theorem wk_app (i : Nat) (s : List Nat) (k : Nat) (t : List Nat) (j : Nat) : wk A i (s ++ k :: t) j ↔ wk A i s k ∧ wk A k t j := by
  induction s generalizing i with
  | nil => simp [wk]
  | cons x s ih => simp only [List.cons_append, wk, ih]; exact and_assoc.symm
theorem wt_bd {M : Int} (hM : ∀ i j, A i j ≠ -1000000000000000 → -M ≤ A i j ∧ A i j ≤ M) {i j : Nat} {m : List Nat} (h : wk A i m j) : -(M * ((m.length : Int) + 1)) ≤ wt A i m j ∧ wt A i m j ≤ M * ((m.length : Int) + 1) := by
  induction m generalizing i with
  | nil => have := hM i j h; simp only [wt, List.length_nil]; omega
  | cons k m ih =>
    have h1 := hM i k h.1
    have h2 := ih h.2
    simp only [wt, List.length_cons]
    have e : M * (((m.length + 1 : Nat) : Int) + 1) = M * ((m.length : Int) + 1) + M := by
      rw [show ((m.length + 1 : Nat) : Int) + 1 = ((m.length : Int) + 1) + 1 by omega, Int.mul_add, Int.mul_one]
    omega

theorem nodup_len : ∀ (n : Nat) (l : List Nat), l.Nodup → lo n l → l.length ≤ n
  | 0, l, _, h => by
    cases l with
    | nil => simp
    | cons x l => exact absurd (h x (by simp)) (Nat.not_lt_zero _)
  | n + 1, l, hd, h => by
    have h1 : lo n (l.erase n) := fun x hx => by
      have := (hd.mem_erase_iff).1 hx
      have := h x this.2
      omega
    have h2 := nodup_len n _ (hd.erase n) h1
    have h3 := List.length_erase (a := n) (l := l)
    split at h3 <;> omega

/-- no closed walk through the nodes below k is positive -/
def NoPos (A : Nat → Nat → Int) (k : Nat) : Prop := ∀ v m, v < k → lo k m → wk A v m v → wt A v m v ≤ 0
theorem NoPos.mono {k l : Nat} (h : NoPos A l) (e : k ≤ l) : NoPos A k := fun v m hv hm hw => h v m (by omega) (hm.mono e) hw

/-- a walk may be made simple -/
theorem simple {n : Nat} (hN : NoPos A n) {j : Nat} : ∀ (m : List Nat) (i : Nat), i < n → lo n m → wk A i m j →
    ∃ m', (i :: m').Nodup ∧ lo n m' ∧ (∀ x ∈ m', x ∈ m) ∧ wk A i m' j ∧ wt A i m j ≤ wt A i m' j
  | [], i, hi, hm, hw => ⟨[], by simp, lo_nil _, fun x h => h, hw, Int.le_refl _⟩
  | k :: m, i, hi, hm, hw => by
    have hk := lo_cons.1 hm
    obtain ⟨m', h1, h2, h3, h4, h5⟩ := simple hN m k hk.1 hk.2 hw.2
    have hsub : ∀ x ∈ k :: m', x ∈ k :: m := fun x hx => by
      rcases List.mem_cons.1 hx with e | e
      · simp [e]
      · exact List.mem_cons_of_mem _ (h3 x e)
    by_cases hin : i ∈ k :: m'
    · obtain ⟨s, t, e⟩ := List.append_of_mem hin
      have hw' : wk A i (k :: m') j := ⟨hw.1, h4⟩
      have e2 : wt A i (k :: m') j = wt A i s i + wt A i t j := by rw [e, wt_app]
      rw [e, wk_app] at hw'
      have hlo : lo n (s ++ i :: t) := by rw [← e]; exact lo_cons.2 ⟨hk.1, h2⟩
      rw [lo_app, lo_cons] at hlo
      have h6 := hN i s hi hlo.1 hw'.1
      rw [e] at h1
      refine ⟨t, (List.nodup_append.1 h1).2.1, hlo.2.2, fun x hx => hsub x (by rw [e]; simp [hx]), hw'.2, ?_⟩
      simp only [wt] at e2 ⊢
      omega
    · refine ⟨k :: m', ?_, lo_cons.2 ⟨hk.1, h2⟩, hsub, ⟨hw.1, h4⟩, ?_⟩
      · rw [List.nodup_cons]; exact ⟨hin, h1⟩
      · simp only [wt]; omega
theorem simple_len {n i : Nat} {m : List Nat} (h : (i :: m).Nodup) (hi : i < n) (hm : lo n m) : m.length + 1 ≤ n := by
  have := nodup_len n _ h (lo_cons.2 ⟨hi, hm⟩); simpa using this

/-- x is the greatest number of P, Bottom if there is none -/
def Top (P : Int → Prop) (x : Int) : Prop := (x = -1000000000000000 ∧ ∀ s, ¬ P s) ∨ (P x ∧ ∀ s, P s → s ≤ x)
theorem Top.eq {P : Int → Prop} {x y : Int} (h : Top P x) (k : Top P y) : x = y := by
  rcases h with ⟨h1, h2⟩ | ⟨h1, h2⟩ <;> rcases k with ⟨k1, k2⟩ | ⟨k1, k2⟩
  · omega
  · exact absurd k1 (h2 _)
  · exact absurd h1 (k2 _)
  · have := h2 _ k1; have := k2 _ h1; omega
/-- the weights of the walks from i to j below n, and 0 for i = j -/
def WP (A : Nat → Nat → Int) (n i j : Nat) (s : Int) : Prop := (i = j ∧ s = 0) ∨ ∃ m, lo n m ∧ wk A i m j ∧ wt A i m j = s
/-- the star -/
def IsStar (A : Nat → Nat → Int) (n : Nat) (S : Nat → Nat → Int) : Prop := ∀ i j, i < n → j < n → Top (WP A n i j) (S i j)

/-- what one stage of the program's loop makes out of S -/
def fwF (k : Nat) (S : Nat → Nat → Int) (i j : Nat) : Int := max (S i j) (times (S i k) (S k j))
/-- the state before stage k: sound, complete, no positive cycle so far -/
structure FW (A : Nat → Nat → Int) (n k : Nat) (S : Nat → Nat → Int) : Prop where
  sound : ∀ i j, i < n → j < n → S i j ≠ -1000000000000000 → (i = j ∧ S i j = 0) ∨ ∃ m, lo k m ∧ wk A i m j ∧ wt A i m j = S i j
  full : ∀ i j m, i < n → j < n → lo k m → wk A i m j → wt A i m j ≤ S i j ∧ S i j ≠ -1000000000000000
  diag : ∀ i, i < n → 0 ≤ S i i
  none : NoPos A k

theorem mul_mono {M a b : Int} (h0 : 0 ≤ M) (h : a ≤ b) : M * a ≤ M * b := Int.mul_le_mul_of_nonneg_left h h0

/-- bounds of the entries -/
theorem FW.bd {n k : Nat} {S : Nat → Nat → Int} (h : FW A n k S) (hk : k ≤ n) {M : Int} (h0 : 0 ≤ M) (hM : ∀ i j, A i j ≠ -1000000000000000 → -M ≤ A i j ∧ A i j ≤ M) {i j : Nat} (hi : i < n) (hj : j < n)
    (hne : S i j ≠ -1000000000000000) : -(M * ((n : Int) + 1)) ≤ S i j ∧ S i j ≤ M * ((n : Int) + 1) := by
  have hz : 0 ≤ M * ((n : Int) + 1) := Int.mul_nonneg h0 (by omega)
  rcases h.sound i j hi hj hne with ⟨_, e⟩ | ⟨m, h1, h2, h3⟩
  · omega
  · -- a simple walk that weighs as much
    cases m with
    | nil =>
      have := wt_bd hM h2
      have hc := mul_mono h0 (show ((([] : List Nat).length : Nat) : Int) + 1 ≤ (n : Int) + 1 by simp only [List.length_nil]; omega)
      omega
    | cons x m =>
      have hx := lo_cons.1 h1
      obtain ⟨m', a1, a2, a3, a4, a5⟩ := simple h.none m x hx.1 hx.2 h2.2
      have b1 := h.full i j (x :: m') hi hj (lo_cons.2 ⟨hx.1, a2⟩) ⟨h2.1, a4⟩
      have b2 := wt_bd hM (show wk A i (x :: m') j from ⟨h2.1, a4⟩)
      have b3 := simple_len a1 hx.1 a2
      have hc := mul_mono h0 (show (((x :: m').length : Nat) : Int) + 1 ≤ (n : Int) + 1 by simp only [List.length_cons]; omega)
      simp only [wt] at b1 b2 h3
      omega

/-- one stage, if no entry of the diagonal is positive at its place -/
theorem FW.step {n k : Nat} {S : Nat → Nat → Int} (h : FW A n k S) (hk : k < n) (hd : S k k ≤ 0) {M : Int} (h0 : 0 ≤ M) (hM : ∀ i j, A i j ≠ -1000000000000000 → -M ≤ A i j ∧ A i j ≤ M) (hb : M * ((n : Int) + 1) ≤ 100000000000000) :
    FW A n (k + 1) (fwF k S) := by
  have bd : ∀ i j, i < n → j < n → S i j ≠ -1000000000000000 → -100000000000000 ≤ S i j ∧ S i j ≤ 100000000000000 := fun i j hi hj hne => by
    have := h.bd (by omega) h0 hM hi hj hne; omega
  -- walks that begin at k
  have from_k : ∀ (L : Nat) (t : List Nat) (j : Nat), t.length ≤ L → j < n → lo (k + 1) t → wk A k t j → wt A k t j ≤ S k j ∧ S k j ≠ -1000000000000000 := by
    intro L
    induction L with
    | zero =>
      intro t j hl hj ht hw
      have : t = [] := List.eq_nil_of_length_eq_zero (by omega)
      subst this
      exact h.full k j [] hk hj (lo_nil _) hw
    | succ L ih =>
      intro t j hl hj ht hw
      by_cases hin : k ∈ t
      · obtain ⟨s, u, e⟩ := List.append_of_mem hin
        subst e
        rw [lo_app, lo_cons] at ht
        rw [wk_app] at hw
        rw [wt_app]
        simp only [List.length_append, List.length_cons] at hl
        have h1 := ih s k (by omega) hk ht.1 hw.1
        have h2 := ih u j (by omega) hj ht.2.2 hw.2
        exact ⟨by omega, h2.2⟩
      · refine h.full k j t hk hj (fun x hx => ?_) hw
        have := ht x hx
        have : x ≠ k := fun e => hin (by rw [← e]; exact hx)
        omega
  have to_k : ∀ (L : Nat) (t : List Nat) (i : Nat), t.length ≤ L → i < n → lo (k + 1) t → wk A i t k → wt A i t k ≤ S i k ∧ S i k ≠ -1000000000000000 := by
    intro L
    induction L with
    | zero =>
      intro t i hl hi ht hw
      have : t = [] := List.eq_nil_of_length_eq_zero (by omega)
      subst this
      exact h.full i k [] hi hk (lo_nil _) hw
    | succ L ih =>
      intro t i hl hi ht hw
      by_cases hin : k ∈ t
      · obtain ⟨s, u, e⟩ := List.append_of_mem hin
        subst e
        rw [lo_app, lo_cons] at ht
        rw [wk_app] at hw
        rw [wt_app]
        simp only [List.length_append, List.length_cons] at hl
        have h1 := ih s i (by omega) hi ht.1 hw.1
        have h2 := from_k u.length u k (Nat.le_refl _) hk ht.2.2 hw.2
        exact ⟨by omega, h1.2⟩
      · refine h.full i k t hi hk (fun x hx => ?_) hw
        have := ht x hx
        have : x ≠ k := fun e => hin (by rw [← e]; exact hx)
        omega
  have full : ∀ i j m, i < n → j < n → lo (k + 1) m → wk A i m j → wt A i m j ≤ fwF k S i j ∧ fwF k S i j ≠ -1000000000000000 := by
    intro i j m hi hj hm hw
    unfold fwF
    by_cases hin : k ∈ m
    · obtain ⟨s, u, e⟩ := List.append_of_mem hin
      subst e
      rw [lo_app, lo_cons] at hm
      rw [wk_app] at hw
      rw [wt_app]
      have h1 := to_k s.length s i (Nat.le_refl _) hi hm.1 hw.1
      have h2 := from_k u.length u j (Nat.le_refl _) hj hm.2.2 hw.2
      have b1 := bd i k hi hk h1.2
      have b2 := bd k j hk hj h2.2
      have e : times (S i k) (S k j) = S i k + S k j := by unfold times; rw [if_neg (by omega)]
      rw [e]; omega
    · have h1 := h.full i j m hi hj (fun x hx => by
        have := hm x hx
        have : x ≠ k := fun e => hin (by rw [← e]; exact hx)
        omega) hw
      have b1 := bd i j hi hj h1.2
      omega
  refine ⟨fun i j hi hj hne => ?_, full, fun i hi => ?_, fun v m hv hm hw => ?_⟩
  · unfold fwF at hne ⊢
    by_cases e : S i k = -1000000000000000 ∨ S k j = -1000000000000000
    · have et : times (S i k) (S k j) = -1000000000000000 := by unfold times; rw [if_pos e]
      rw [et] at hne ⊢
      have hmx : max (S i j) (-1000000000000000) = S i j := by
        rcases Classical.em (S i j = -1000000000000000) with e | e
        · omega
        · have := bd i j hi hj e; omega
      rw [hmx] at hne ⊢
      rcases h.sound i j hi hj hne with h1 | ⟨m, h1, h2⟩
      · exact .inl h1
      · exact .inr ⟨m, h1.mono (by omega), h2⟩
    · have e1 : S i k ≠ -1000000000000000 := fun x => e (.inl x)
      have e2 : S k j ≠ -1000000000000000 := fun x => e (.inr x)
      have et : times (S i k) (S k j) = S i k + S k j := by unfold times; rw [if_neg e]
      rw [et] at hne ⊢
      by_cases hle : S i k + S k j ≤ S i j
      · rw [show max (S i j) (S i k + S k j) = S i j by omega] at hne ⊢
        rcases h.sound i j hi hj hne with h1 | ⟨m, h1, h2⟩
        · exact .inl h1
        · exact .inr ⟨m, h1.mono (by omega), h2⟩
      · rw [show max (S i j) (S i k + S k j) = S i k + S k j by omega]
        rcases h.sound i k hi hk e1 with ⟨rfl, z1⟩ | ⟨m1, a1, a2, a3⟩
        · omega
        · rcases h.sound k j hk hj e2 with ⟨rfl, z2⟩ | ⟨m2, b1, b2, b3⟩
          · omega
          · refine .inr ⟨m1 ++ k :: m2, ?_, ?_, ?_⟩
            · rw [lo_app, lo_cons]; exact ⟨a1.mono (by omega), by omega, b1.mono (by omega)⟩
            · rw [wk_app]; exact ⟨a2, b2⟩
            · rw [wt_app]; omega
  · have := h.diag i hi; unfold fwF; omega
  · by_cases hvk : v = k
    · subst hvk
      have := from_k m.length m v (Nat.le_refl _) hk hm hw
      omega
    · by_cases hin : k ∈ m
      · obtain ⟨s, u, e⟩ := List.append_of_mem hin
        subst e
        rw [lo_app, lo_cons] at hm
        rw [wk_app] at hw
        rw [wt_app]
        have hr : wk A k (u ++ v :: s) k := by rw [wk_app]; exact ⟨hw.2, hw.1⟩
        have := from_k _ (u ++ v :: s) k (Nat.le_refl _) hk (by rw [lo_app, lo_cons]; exact ⟨hm.2.2, by omega, hm.1⟩) hr
        rw [wt_app] at this
        omega
      · refine h.none v m (by omega) (fun x hx => ?_) hw
        have := hm x hx
        have : x ≠ k := fun e => hin (by rw [← e]; exact hx)
        omega

/-- the state at the start -/
theorem FW.start (A : Nat → Nat → Int) (n : Nat) {S : Nat → Nat → Int} (hS : ∀ i j, i < n → j < n → S i j = max (A i j) (unitF i j)) (hA : ∀ i j, A i j ≠ -1000000000000000 → -100000000000000 ≤ A i j) : FW A n 0 S := by
  refine ⟨fun i j hi hj hne => ?_, fun i j m hi hj hm hw => ?_, fun i hi => ?_, fun v m hv => absurd hv (Nat.not_lt_zero _)⟩
  · rw [hS i j hi hj] at hne ⊢
    unfold unitF at hne ⊢
    by_cases e : i = j
    · rw [if_pos e] at hne ⊢
      by_cases hp : 0 < A i j
      · exact .inr ⟨[], lo_nil _, by show A i j ≠ _; omega, by show A i j = _; omega⟩
      · exact .inl ⟨e, by omega⟩
    · rw [if_neg e] at hne ⊢
      have : A i j ≠ -1000000000000000 := by intro e; rw [e] at hne; omega
      have := hA i j this
      exact .inr ⟨[], lo_nil _, by assumption, by show A i j = _; omega⟩
  · have : m = [] := by
      cases m with
      | nil => rfl
      | cons x m => exact absurd (lo_cons.1 hm).1 (Nat.not_lt_zero _)
    subst this
    have h1 := hA i j hw
    rw [hS i j hi hj]
    show A i j ≤ _ ∧ _
    omega
  · rw [hS i i hi hi]; unfold unitF; rw [if_pos rfl]; omega

/-- the state at the end -/
theorem FW.star {n : Nat} {S : Nat → Nat → Int} (h : FW A n n S) : IsStar A n S := by
  intro i j hi hj
  by_cases hne : S i j = -1000000000000000
  · refine .inl ⟨hne, fun s hs => ?_⟩
    rcases hs with ⟨rfl, _⟩ | ⟨m, h1, h2, _⟩
    · have := h.diag i hi; omega
    · exact (h.full i j m hi hj h1 h2).2 hne
  · refine .inr ⟨h.sound i j hi hj hne, fun s hs => ?_⟩
    rcases hs with ⟨rfl, e⟩ | ⟨m, h1, h2, e⟩
    · have := h.diag i hi; omega
    · have := (h.full i j m hi hj h1 h2).1; omega
/-- a positive entry of the diagonal -/
theorem FW.pos {n k v : Nat} {S : Nat → Nat → Int} (h : FW A n k S) (hk : k ≤ n) (hv : v < n) (hp : 0 < S v v) : ¬ NoPos A n := by
  intro hN
  rcases h.sound v v hv hv (by omega) with ⟨_, e⟩ | ⟨m, h1, h2, h3⟩
  · omega
  · have := hN v m hv (h1.mono hk) h2; omega

/-- the reference's rounds: walks of at most k arcs -/
def WPk (A : Nat → Nat → Int) (n k i j : Nat) (s : Int) : Prop := (i = j ∧ s = 0) ∨ ∃ m, m.length + 1 ≤ k ∧ lo n m ∧ wk A i m j ∧ wt A i m j = s
def roundF (n : Nat) (A S : Nat → Nat → Int) (i j : Nat) : Int := max (unitF i j) (mx n fun k => times (A i k) (S k j))
theorem mx_spec {n : Nat} {f : Nat → Int} : (mx n f = -1000000000000000 ∨ ∃ k, k < n ∧ mx n f = f k) ∧ ∀ k, k < n → f k ≤ mx n f := by
  induction n with
  | zero => exact ⟨.inl rfl, fun k h => absurd h (Nat.not_lt_zero _)⟩
  | succ n ih =>
    simp only [mx]
    refine ⟨?_, fun k hk => ?_⟩
    · by_cases h : mx n f ≤ f n
      · exact .inr ⟨n, by omega, by omega⟩
      · rw [show max (mx n f) (f n) = mx n f by omega]
        rcases ih.1 with e | ⟨k, h1, h2⟩
        · exact .inl e
        · exact .inr ⟨k, by omega, h2⟩
    · by_cases e : k = n
      · subst e; omega
      · have := ih.2 k (by omega); omega
theorem round_top {n k : Nat} {S : Nat → Nat → Int} {M : Int} (h0 : 0 ≤ M) (hM : ∀ i j, A i j ≠ -1000000000000000 → -M ≤ A i j ∧ A i j ≤ M) (hb : M * ((k : Int) + 1) ≤ 100000000000000)
    (h : ∀ i j, i < n → j < n → Top (WPk A n k i j) (S i j)) : ∀ i j, i < n → j < n → Top (WPk A n (k + 1) i j) (roundF n A S i j) := by
  have hbM : M ≤ 100000000000000 := by
    have := mul_mono h0 (show (1 : Int) ≤ (k : Int) + 1 by omega); omega
  have hSb : ∀ i j, i < n → j < n → S i j ≠ -1000000000000000 → -100000000000000 ≤ S i j ∧ S i j ≤ 100000000000000 := fun i j hi hj hne => by
    rcases h i j hi hj with ⟨e, _⟩ | ⟨h1, _⟩
    · exact absurd e hne
    · rcases h1 with ⟨_, e⟩ | ⟨m, a1, a2, a3, a4⟩
      · omega
      · have := wt_bd hM a3
        have := mul_mono h0 (show (m.length : Int) + 1 ≤ (k : Int) + 1 by omega)
        omega
  intro i j hi hj
  have hms := mx_spec (n := n) (f := fun k => times (A i k) (S k j))
  -- every weight is at most the entry
  have hup : ∀ s, WPk A n (k + 1) i j s → s ≤ roundF n A S i j ∧ -200000000000000 ≤ roundF n A S i j := by
    intro s hs
    unfold roundF unitF
    rcases hs with ⟨e, rfl⟩ | ⟨m, a1, a2, a3, a4⟩
    · rw [if_pos e]; omega
    · cases m with
      | nil =>
        -- one arc: A i j + S j j, S j j at least 0
        have hjj : 0 ≤ S j j ∧ S j j ≠ -1000000000000000 := by
          rcases h j j hj hj with ⟨e, h2⟩ | ⟨_, h2⟩
          · exact absurd (.inl ⟨rfl, rfl⟩) (h2 0)
          · have := h2 0 (.inl ⟨rfl, rfl⟩); omega
        have h1 := hms.2 j hj
        have hne : A i j ≠ -1000000000000000 := a3
        have et : times (A i j) (S j j) = A i j + S j j := by unfold times; rw [if_neg (by omega)]
        simp only [et] at h1
        have hAb := hM i j hne
        have : A i j = s := a4
        omega
      | cons x m =>
        have hx := lo_cons.1 a2
        simp only [List.length_cons] at a1
        have hxj : wt A x m j ≤ S x j ∧ S x j ≠ -1000000000000000 := by
          have hp : WPk A n k x j (wt A x m j) := .inr ⟨m, by omega, hx.2, a3.2, rfl⟩
          rcases h x j hx.1 hj with ⟨e, h2⟩ | ⟨h1, h2⟩
          · exact absurd hp (h2 _)
          · refine ⟨h2 _ hp, ?_⟩
            have := wt_bd hM a3.2
            have := mul_mono h0 (show (m.length : Int) + 1 ≤ (k : Int) + 1 by omega)
            have := h2 _ hp
            omega
        have h1 := hms.2 x hx.1
        have et : times (A i x) (S x j) = A i x + S x j := by
          unfold times; rw [if_neg (by have := a3.1; have := hxj.2; omega)]
        simp only [et] at h1
        have hAb := hM i x a3.1
        have hsb := hSb x j hx.1 hj hxj.2
        simp only [wt] at a4
        omega
  by_cases hex : ∃ s, WPk A n (k + 1) i j s
  · obtain ⟨s0, hs0⟩ := hex
    have hge := (hup s0 hs0).2
    refine .inr ⟨?_, fun s hs => (hup s hs).1⟩
    unfold roundF at hge ⊢
    by_cases hu : mx n (fun k => times (A i k) (S k j)) ≤ unitF i j
    · rw [show max (unitF i j) (mx n fun k => times (A i k) (S k j)) = unitF i j by omega] at hge ⊢
      unfold unitF at hge ⊢
      split
      · rename_i e; exact .inl ⟨e, rfl⟩
      · rename_i e; rw [if_neg e] at hge; omega
    · rw [show max (unitF i j) (mx n fun k => times (A i k) (S k j)) = mx n (fun k => times (A i k) (S k j)) by omega] at hge ⊢
      rcases hms.1 with e | ⟨x, hx, e⟩
      · omega
      · rw [e] at hge ⊢
        have hne : ¬ (A i x = -1000000000000000 ∨ S x j = -1000000000000000) := by
          intro e; unfold times at hge; rw [if_pos e] at hge; omega
        have et : times (A i x) (S x j) = A i x + S x j := by unfold times; rw [if_neg hne]
        rw [et]
        have e1 : A i x ≠ -1000000000000000 := fun e => hne (.inl e)
        have e2 : S x j ≠ -1000000000000000 := fun e => hne (.inr e)
        rcases h x j hx hj with ⟨e, _⟩ | ⟨h1, _⟩
        · exact absurd e e2
        · rcases h1 with ⟨rfl, z⟩ | ⟨m, a1, a2, a3, a4⟩
          · exact .inr ⟨[], by simp, lo_nil _, e1, by show A i x = _; omega⟩
          · exact .inr ⟨x :: m, by simp only [List.length_cons]; omega, lo_cons.2 ⟨hx, a2⟩, ⟨e1, a3⟩, by simp only [wt]; omega⟩
  · refine .inl ⟨?_, fun s hs => hex ⟨s, hs⟩⟩
    unfold roundF
    have hij : i ≠ j := fun e => hex ⟨0, .inl ⟨e, rfl⟩⟩
    have hu : unitF i j = -1000000000000000 := by unfold unitF; rw [if_neg hij]
    rw [hu]
    rcases hms.1 with e | ⟨x, hx, e⟩
    · omega
    · by_cases hne : A i x = -1000000000000000 ∨ S x j = -1000000000000000
      · have : times (A i x) (S x j) = -1000000000000000 := by unfold times; rw [if_pos hne]
        omega
      · exfalso
        have e1 : A i x ≠ -1000000000000000 := fun e => hne (.inl e)
        have e2 : S x j ≠ -1000000000000000 := fun e => hne (.inr e)
        rcases h x j hx hj with ⟨e, _⟩ | ⟨h1, _⟩
        · exact e2 e
        · rcases h1 with ⟨rfl, z⟩ | ⟨m, a1, a2, a3, a4⟩
          · exact hex ⟨A i x, .inr ⟨[], by simp, lo_nil _, e1, rfl⟩⟩
          · exact hex ⟨_, .inr ⟨x :: m, by simp only [List.length_cons]; omega, lo_cons.2 ⟨hx, a2⟩, ⟨e1, a3⟩, rfl⟩⟩
theorem round_start (A : Nat → Nat → Int) (n : Nat) : ∀ i j, i < n → j < n → Top (WPk A n 0 i j) (unitF i j) := by
  intro i j hi hj
  unfold unitF
  split
  · rename_i e; exact .inr ⟨.inl ⟨e, rfl⟩, fun s hs => by
      rcases hs with ⟨_, rfl⟩ | ⟨m, h, _⟩
      · exact Int.le_refl _
      · omega⟩
  · rename_i e; exact .inl ⟨rfl, fun s hs => by
      rcases hs with ⟨e', _⟩ | ⟨m, h, _⟩
      · exact e e'
      · omega⟩
/-- n rounds are enough without a positive cycle -/
theorem star_of_round {n k : Nat} {S : Nat → Nat → Int} (hN : NoPos A n) (hk : n ≤ k) (h : ∀ i j, i < n → j < n → Top (WPk A n k i j) (S i j)) : IsStar A n S := by
  intro i j hi hj
  have hp : ∀ s, WP A n i j s → ∃ s', WPk A n k i j s' ∧ s ≤ s' := by
    intro s hs
    rcases hs with h1 | ⟨m, a1, a2, a3⟩
    · exact ⟨s, .inl h1, Int.le_refl _⟩
    · obtain ⟨m', b1, b2, _, b4, b5⟩ := simple hN m i hi a1 a2
      have := simple_len b1 hi b2
      exact ⟨_, .inr ⟨m', by omega, b2, b4, rfl⟩, by omega⟩
  have hq : ∀ s, WPk A n k i j s → WP A n i j s := by
    intro s hs
    rcases hs with h1 | ⟨m, _, a2, a3, a4⟩
    · exact .inl h1
    · exact .inr ⟨m, a2, a3, a4⟩
  rcases h i j hi hj with ⟨e, h2⟩ | ⟨h1, h2⟩
  · exact .inl ⟨e, fun s hs => by obtain ⟨s', h3, _⟩ := hp s hs; exact h2 s' h3⟩
  · exact .inr ⟨hq _ h1, fun s hs => by obtain ⟨s', h3, h4⟩ := hp s hs; have := h2 s' h3; omega⟩
/-- a round that changes nothing shows that there is no positive cycle -/
theorem fix_nopos {n : Nat} {S : Nat → Nat → Int} {M : Int} (h0 : 0 ≤ M) (hM : ∀ i j, A i j ≠ -1000000000000000 → -M ≤ A i j ∧ A i j ≤ M) (hMb : M ≤ 100000000000000)
    (hS : ∀ i j, i < n → j < n → S i j ≠ -1000000000000000 → -100000000000000 ≤ S i j ∧ S i j ≤ 100000000000000)
    (hfix : ∀ i j, i < n → j < n → S i j = roundF n A S i j) : NoPos A n := by
  have hstep : ∀ i x j, i < n → x < n → j < n → A i x ≠ -1000000000000000 → S x j ≠ -1000000000000000 → A i x + S x j ≤ S i j ∧ S i j ≠ -1000000000000000 := fun i x j hi hx hj h1 h2 => by
    have e := hfix i j hi hj
    have hms := (mx_spec (n := n) (f := fun k => times (A i k) (S k j))).2 x hx
    have et : times (A i x) (S x j) = A i x + S x j := by unfold times; rw [if_neg (by omega)]
    simp only [et] at hms
    have := hM i x h1
    have := hS x j hx hj h2
    unfold roundF at e
    omega
  have hdiag : ∀ v, v < n → 0 ≤ S v v := fun v hv => by
    have := hfix v v hv hv
    unfold roundF unitF at this
    rw [if_pos rfl] at this; omega
  have hwalk : ∀ (m : List Nat) (i j : Nat), i < n → j < n → lo n m → wk A i m j → wt A i m j + S j j ≤ S i j ∧ S i j ≠ -1000000000000000 := by
    intro m
    induction m with
    | nil => intro i j hi hj _ hw; exact hstep i j j hi hj hj hw (by have := hdiag j hj; omega)
    | cons x m ih =>
      intro i j hi hj hm hw
      have hx := lo_cons.1 hm
      have h1 := ih x j hx.1 hj hx.2 hw.2
      have h2 := hstep i x j hi hx.1 hj hw.1 h1.2
      simp only [wt]
      exact ⟨by omega, h2.2⟩
  intro v m hv hm hw
  have := hwalk m v v hv hv hm hw
  omega
theorem star_fix {n k : Nat} {S : Nat → Nat → Int} {M : Int} (h0 : 0 ≤ M) (hM : ∀ i j, A i j ≠ -1000000000000000 → -M ≤ A i j ∧ A i j ≤ M) (hb : M * ((k : Int) + 1) ≤ 100000000000000) (hN : NoPos A n) (hk : n ≤ k)
    (h : ∀ i j, i < n → j < n → Top (WPk A n k i j) (S i j)) : ∀ i j, i < n → j < n → S i j = roundF n A S i j := fun i j hi hj =>
  (star_of_round hN hk h i j hi hj).eq (star_of_round hN (show n ≤ k + 1 by omega) (round_top h0 hM hb h) i j hi hj)
end Go.Proofs.Ytljchmkoafahgaa
