/- Several texts in one: K1 K2 K3 K4 R1 R2. -/
import Derived.Test.YtokhkpbebimohaaGP
/- Plain law: walks in a matrix. A walk from i to j goes over the nodes of a list m; its weight is the sum of its arcs. No program in sight. -/
namespace Go.Proofs.Ytokhkpbebimohaa
set_option linter.unusedVariables false

/-- the weight of the walk i, m, j -/
def wt (A : Nat → Nat → Int) : Nat → List Nat → Nat → Int
  | i, [], j => A i j
  | i, k :: m, j => A i k + wt A k m j
/-- no arc of it is missing -/
def wk (A : Nat → Nat → Int) : Nat → List Nat → Nat → Prop
  | i, [], j => A i j ≠ -1000000000000000
  | i, k :: m, j => A i k ≠ -1000000000000000 ∧ wk A k m j
/-- all nodes below n -/
def lo (n : Nat) (m : List Nat) : Prop := ∀ x ∈ m, x < n
theorem lo_nil (n : Nat) : lo n [] := fun x h => by simp at h
theorem lo_cons {n k : Nat} {m : List Nat} : lo n (k :: m) ↔ k < n ∧ lo n m := by unfold lo; simp
theorem lo_app {n : Nat} {s t : List Nat} : lo n (s ++ t) ↔ lo n s ∧ lo n t := by
  unfold lo; constructor
  · intro h; exact ⟨fun x hx => h x (by simp [hx]), fun x hx => h x (by simp [hx])⟩
  · rintro ⟨h1, h2⟩ x hx; rcases List.mem_append.1 hx with h | h
    · exact h1 x h
    · exact h2 x h
theorem lo.mono {n k : Nat} {m : List Nat} (h : lo n m) (e : n ≤ k) : lo k m := fun x hx => Nat.lt_of_lt_of_le (h x hx) e
theorem lo.sub {n : Nat} {m m' : List Nat} (h : lo n m) (e : ∀ x ∈ m', x ∈ m) : lo n m' := fun x hx => h x (e x hx)

variable {A : Nat → Nat → Int}
theorem wt_app (i : Nat) (s : List Nat) (k : Nat) (t : List Nat) (j : Nat) : wt A i (s ++ k :: t) j = wt A i s k + wt A k t j := by
  induction s generalizing i with
  | nil => rfl
  | cons x s ih => simp only [List.cons_append, wt, ih]; omega
theorem wk_app (i : Nat) (s : List Nat) (k : Nat) (t : List Nat) (j : Nat) : wk A i (s ++ k :: t) j ↔ wk A i s k ∧ wk A k t j := by
  induction s generalizing i with
  | nil => simp [wk]
  | cons x s ih => simp only [List.cons_append, wk, ih]; exact and_assoc.symm
theorem wt_bd {M : Int} (hM : ∀ i j, A i j ≠ -1000000000000000 → -M ≤ A i j ∧ A i j ≤ M) {i j : Nat} {m : List Nat} (h : wk A i m j) : -(M * ((m.length : Int) + 1)) ≤ wt A i m j ∧ wt A i m j ≤ M * ((m.length : Int) + 1) := by
  induction m generalizing i with
  | nil => have := hM i j h; simp only [wt, List.length_nil]; omega
  | cons k m ih =>
    have h1 := hM i k h.1
    have h2 := ih h.2
    simp only [wt, List.length_cons]
    have e : M * (((m.length + 1 : Nat) : Int) + 1) = M * ((m.length : Int) + 1) + M := by
      rw [show ((m.length + 1 : Nat) : Int) + 1 = ((m.length : Int) + 1) + 1 by omega, Int.mul_add, Int.mul_one]
    omega

theorem nodup_len : ∀ (n : Nat) (l : List Nat), l.Nodup → lo n l → l.length ≤ n
  | 0, l, _, h => by
    cases l with
    | nil => simp
    | cons x l => exact absurd (h x (by simp)) (Nat.not_lt_zero _)
  | n + 1, l, hd, h => by
    have h1 : lo n (l.erase n) := fun x hx => by
      have := (hd.mem_erase_iff).1 hx
      have := h x this.2
      omega
    have h2 := nodup_len n _ (hd.erase n) h1
    have h3 := List.length_erase (a := n) (l := l)
    split at h3 <;> omega

/-- no closed walk through the nodes below k is positive -/
def NoPos (A : Nat → Nat → Int) (k : Nat) : Prop := ∀ v m, v < k → lo k m → wk A v m v → wt A v m v ≤ 0
theorem NoPos.mono {k l : Nat} (h : NoPos A l) (e : k ≤ l) : NoPos A k := fun v m hv hm hw => h v m (by omega) (hm.mono e) hw

/-- a walk may be made simple -/
theorem simple {n : Nat} (hN : NoPos A n) {j : Nat} : ∀ (m : List Nat) (i : Nat), i < n → lo n m → wk A i m j →
    ∃ m', (i :: m').Nodup ∧ lo n m' ∧ (∀ x ∈ m', x ∈ m) ∧ wk A i m' j ∧ wt A i m j ≤ wt A i m' j
  | [], i, hi, hm, hw => ⟨[], by simp, lo_nil _, fun x h => h, hw, Int.le_refl _⟩
  | k :: m, i, hi, hm, hw => by
    have hk := lo_cons.1 hm
    obtain ⟨m', h1, h2, h3, h4, h5⟩ := simple hN m k hk.1 hk.2 hw.2
    have hsub : ∀ x ∈ k :: m', x ∈ k :: m := fun x hx => by
      rcases List.mem_cons.1 hx with e | e
      · simp [e]
      · exact List.mem_cons_of_mem _ (h3 x e)
    by_cases hin : i ∈ k :: m'
    · obtain ⟨s, t, e⟩ := List.append_of_mem hin
      have hw' : wk A i (k :: m') j := ⟨hw.1, h4⟩
      have e2 : wt A i (k :: m') j = wt A i s i + wt A i t j := by rw [e, wt_app]
      rw [e, wk_app] at hw'
      have hlo : lo n (s ++ i :: t) := by rw [← e]; exact lo_cons.2 ⟨hk.1, h2⟩
      rw [lo_app, lo_cons] at hlo
      have h6 := hN i s hi hlo.1 hw'.1
      rw [e] at h1
      refine ⟨t, (List.nodup_append.1 h1).2.1, hlo.2.2, fun x hx => hsub x (by rw [e]; simp [hx]), hw'.2, ?_⟩
      simp only [wt] at e2 ⊢
      omega
    · refine ⟨k :: m', ?_, lo_cons.2 ⟨hk.1, h2⟩, hsub, ⟨hw.1, h4⟩, ?_⟩
      · rw [List.nodup_cons]; exact ⟨hin, h1⟩
      · simp only [wt]; omega
theorem simple_len {n i : Nat} {m : List Nat} (h : (i :: m).Nodup) (hi : i < n) (hm : lo n m) : m.length + 1 ≤ n := by
  have := nodup_len n _ h (lo_cons.2 ⟨hi, hm⟩); simpa using this

/-- x is the greatest number of P, Bottom if there is none -/
def Top (P : Int → Prop) (x : Int) : Prop := (x = -1000000000000000 ∧ ∀ s, ¬ P s) ∨ (P x ∧ ∀ s, P s → s ≤ x)
theorem Top.eq {P : Int → Prop} {x y : Int} (h : Top P x) (k : Top P y) : x = y := by
  rcases h with ⟨h1, h2⟩ | ⟨h1, h2⟩ <;> rcases k with ⟨k1, k2⟩ | ⟨k1, k2⟩
  · omega
  · exact absurd k1 (h2 _)
  · exact absurd h1 (k2 _)
  · have := h2 _ k1; have := k2 _ h1; omega
/-- the weights of the walks from i to j below n, and 0 for i = j -/
def WP (A : Nat → Nat → Int) (n i j : Nat) (s : Int) : Prop := (i = j ∧ s = 0) ∨ ∃ m, lo n m ∧ wk A i m j ∧ wt A i m j = s
/-- the star -/
def IsStar (A : Nat → Nat → Int) (n : Nat) (S : Nat → Nat → Int) : Prop := ∀ i j, i < n → j < n → Top (WP A n i j) (S i j)

/-- what one stage of the program's loop makes out of S -/
def fwF (k : Nat) (S : Nat → Nat → Int) (i j : Nat) : Int := max (S i j) (times (S i k) (S k j))
/-- the state before stage k: sound, complete, no positive cycle so far -/
structure FW (A : Nat → Nat → Int) (n k : Nat) (S : Nat → Nat → Int) : Prop where
  sound : ∀ i j, i < n → j < n → S i j ≠ -1000000000000000 → (i = j ∧ S i j = 0) ∨ ∃ m, lo k m ∧ wk A i m j ∧ wt A i m j = S i j
  full : ∀ i j m, i < n → j < n → lo k m → wk A i m j → wt A i m j ≤ S i j ∧ S i j ≠ -1000000000000000
  diag : ∀ i, i < n → 0 ≤ S i i
  none : NoPos A k

theorem mul_mono {M a b : Int} (h0 : 0 ≤ M) (h : a ≤ b) : M * a ≤ M * b := Int.mul_le_mul_of_nonneg_left h h0

/-- bounds of the entries -/
theorem FW.bd {n k : Nat} {S : Nat → Nat → Int} (h : FW A n k S) (hk : k ≤ n) {M : Int} (h0 : 0 ≤ M) (hM : ∀ i j, A i j ≠ -1000000000000000 → -M ≤ A i j ∧ A i j ≤ M) {i j : Nat} (hi : i < n) (hj : j < n)
    (hne : S i j ≠ -1000000000000000) : -(M * ((n : Int) + 1)) ≤ S i j ∧ S i j ≤ M * ((n : Int) + 1) := by
  have hz : 0 ≤ M * ((n : Int) + 1) := Int.mul_nonneg h0 (by omega)
  rcases h.sound i j hi hj hne with ⟨_, e⟩ | ⟨m, h1, h2, h3⟩
  · omega
  · -- a simple walk that weighs as much
    cases m with
    | nil =>
      have := wt_bd hM h2
      have hc := mul_mono h0 (show ((([] : List Nat).length : Nat) : Int) + 1 ≤ (n : Int) + 1 by simp only [List.length_nil]; omega)
      omega
    | cons x m =>
      have hx := lo_cons.1 h1
      obtain ⟨m', a1, a2, a3, a4, a5⟩ := simple h.none m x hx.1 hx.2 h2.2
      have b1 := h.full i j (x :: m') hi hj (lo_cons.2 ⟨hx.1, a2⟩) ⟨h2.1, a4⟩
      have b2 := wt_bd hM (show wk A i (x :: m') j from ⟨h2.1, a4⟩)
      have b3 := simple_len a1 hx.1 a2
      have hc := mul_mono h0 (show (((x :: m').length : Nat) : Int) + 1 ≤ (n : Int) + 1 by simp only [List.length_cons]; omega)
      simp only [wt] at b1 b2 h3
      omega

/-- one stage, if no entry of the diagonal is positive at its place -/
theorem FW.step {n k : Nat} {S : Nat → Nat → Int} (h : FW A n k S) (hk : k < n) (hd : S k k ≤ 0) {M : Int} (h0 : 0 ≤ M) (hM : ∀ i j, A i j ≠ -1000000000000000 → -M ≤ A i j ∧ A i j ≤ M) (hb : M * ((n : Int) + 1) ≤ 100000000000000) :
    FW A n (k + 1) (fwF k S) := by
  have bd : ∀ i j, i < n → j < n → S i j ≠ -1000000000000000 → -100000000000000 ≤ S i j ∧ S i j ≤ 100000000000000 := fun i j hi hj hne => by
    have := h.bd (by omega) h0 hM hi hj hne; omega
  -- walks that begin at k
  have from_k : ∀ (L : Nat) (t : List Nat) (j : Nat), t.length ≤ L → j < n → lo (k + 1) t → wk A k t j → wt A k t j ≤ S k j ∧ S k j ≠ -1000000000000000 := by
    intro L
    induction L with
    | zero =>
      intro t j hl hj ht hw
      have : t = [] := List.eq_nil_of_length_eq_zero (by omega)
      subst this
      exact h.full k j [] hk hj (lo_nil _) hw
    | succ L ih =>
      intro t j hl hj ht hw
      by_cases hin : k ∈ t
      · obtain ⟨s, u, e⟩ := List.append_of_mem hin
        subst e
        rw [lo_app, lo_cons] at ht
        rw [wk_app] at hw
        rw [wt_app]
        simp only [List.length_append, List.length_cons] at hl
        have h1 := ih s k (by omega) hk ht.1 hw.1
        have h2 := ih u j (by omega) hj ht.2.2 hw.2
        exact ⟨by omega, h2.2⟩
      · refine h.full k j t hk hj (fun x hx => ?_) hw
        have := ht x hx
        have : x ≠ k := fun e => hin (by rw [← e]; exact hx)
        omega
  have to_k : ∀ (L : Nat) (t : List Nat) (i : Nat), t.length ≤ L → i < n → lo (k + 1) t → wk A i t k → wt A i t k ≤ S i k ∧ S i k ≠ -1000000000000000 := by
    intro L
    induction L with
    | zero =>
      intro t i hl hi ht hw
      have : t = [] := List.eq_nil_of_length_eq_zero (by omega)
      subst this
      exact h.full i k [] hi hk (lo_nil _) hw
    | succ L ih =>
      intro t i hl hi ht hw
      by_cases hin : k ∈ t
      · obtain ⟨s, u, e⟩ := List.append_of_mem hin
        subst e
        rw [lo_app, lo_cons] at ht
        rw [wk_app] at hw
        rw [wt_app]
        simp only [List.length_append, List.length_cons] at hl
        have h1 := ih s i (by omega) hi ht.1 hw.1
        have h2 := from_k u.length u k (Nat.le_refl _) hk ht.2.2 hw.2
        exact ⟨by omega, h1.2⟩
      · refine h.full i k t hi hk (fun x hx => ?_) hw
        have := ht x hx
        have : x ≠ k := fun e => hin (by rw [← e]; exact hx)
        omega
  have full : ∀ i j m, i < n → j < n → lo (k + 1) m → wk A i m j → wt A i m j ≤ fwF k S i j ∧ fwF k S i j ≠ -1000000000000000 := by
    intro i j m hi hj hm hw
    unfold fwF
    by_cases hin : k ∈ m
    · obtain ⟨s, u, e⟩ := List.append_of_mem hin
      subst e
      rw [lo_app, lo_cons] at hm
      rw [wk_app] at hw
      rw [wt_app]
      have h1 := to_k s.length s i (Nat.le_refl _) hi hm.1 hw.1
      have h2 := from_k u.length u j (Nat.le_refl _) hj hm.2.2 hw.2
      have b1 := bd i k hi hk h1.2
      have b2 := bd k j hk hj h2.2
      have e : times (S i k) (S k j) = S i k + S k j := by unfold times; rw [if_neg (by omega)]
      rw [e]; omega
    · have h1 := h.full i j m hi hj (fun x hx => by
        have := hm x hx
        have : x ≠ k := fun e => hin (by rw [← e]; exact hx)
        omega) hw
      have b1 := bd i j hi hj h1.2
      omega
  refine ⟨fun i j hi hj hne => ?_, full, fun i hi => ?_, fun v m hv hm hw => ?_⟩
  · unfold fwF at hne ⊢
    by_cases e : S i k = -1000000000000000 ∨ S k j = -1000000000000000
    · have et : times (S i k) (S k j) = -1000000000000000 := by unfold times; rw [if_pos e]
      rw [et] at hne ⊢
      have hmx : max (S i j) (-1000000000000000) = S i j := by
        rcases Classical.em (S i j = -1000000000000000) with e | e
        · omega
        · have := bd i j hi hj e; omega
      rw [hmx] at hne ⊢
      rcases h.sound i j hi hj hne with h1 | ⟨m, h1, h2⟩
      · exact .inl h1
      · exact .inr ⟨m, h1.mono (by omega), h2⟩
    · have e1 : S i k ≠ -1000000000000000 := fun x => e (.inl x)
      have e2 : S k j ≠ -1000000000000000 := fun x => e (.inr x)
      have et : times (S i k) (S k j) = S i k + S k j := by unfold times; rw [if_neg e]
      rw [et] at hne ⊢
      by_cases hle : S i k + S k j ≤ S i j
      · rw [show max (S i j) (S i k + S k j) = S i j by omega] at hne ⊢
        rcases h.sound i j hi hj hne with h1 | ⟨m, h1, h2⟩
        · exact .inl h1
        · exact .inr ⟨m, h1.mono (by omega), h2⟩
      · rw [show max (S i j) (S i k + S k j) = S i k + S k j by omega]
        rcases h.sound i k hi hk e1 with ⟨rfl, z1⟩ | ⟨m1, a1, a2, a3⟩
        · omega
        · rcases h.sound k j hk hj e2 with ⟨rfl, z2⟩ | ⟨m2, b1, b2, b3⟩
          · omega
          · refine .inr ⟨m1 ++ k :: m2, ?_, ?_, ?_⟩
            · rw [lo_app, lo_cons]; exact ⟨a1.mono (by omega), by omega, b1.mono (by omega)⟩
            · rw [wk_app]; exact ⟨a2, b2⟩
            · rw [wt_app]; omega
  · have := h.diag i hi; unfold fwF; omega
  · by_cases hvk : v = k
    · subst hvk
      have := from_k m.length m v (Nat.le_refl _) hk hm hw
      omega
    · by_cases hin : k ∈ m
      · obtain ⟨s, u, e⟩ := List.append_of_mem hin
        subst e
        rw [lo_app, lo_cons] at hm
        rw [wk_app] at hw
        rw [wt_app]
        have hr : wk A k (u ++ v :: s) k := by rw [wk_app]; exact ⟨hw.2, hw.1⟩
        have := from_k _ (u ++ v :: s) k (Nat.le_refl _) hk (by rw [lo_app, lo_cons]; exact ⟨hm.2.2, by omega, hm.1⟩) hr
        rw [wt_app] at this
        omega
      · refine h.none v m (by omega) (fun x hx => ?_) hw
        have := hm x hx
        have : x ≠ k := fun e => hin (by rw [← e]; exact hx)
        omega

/-- the state at the start -/
theorem FW.start (A : Nat → Nat → Int) (n : Nat) {S : Nat → Nat → Int} (hS : ∀ i j, i < n → j < n → S i j = max (A i j) (unitF i j)) (hA : ∀ i j, A i j ≠ -1000000000000000 → -100000000000000 ≤ A i j) : FW A n 0 S := by
  refine ⟨fun i j hi hj hne => ?_, fun i j m hi hj hm hw => ?_, fun i hi => ?_, fun v m hv => absurd hv (Nat.not_lt_zero _)⟩
  · rw [hS i j hi hj] at hne ⊢
    unfold unitF at hne ⊢
    by_cases e : i = j
    · rw [if_pos e] at hne ⊢
      by_cases hp : 0 < A i j
      · exact .inr ⟨[], lo_nil _, by show A i j ≠ _; omega, by show A i j = _; omega⟩
      · exact .inl ⟨e, by omega⟩
    · rw [if_neg e] at hne ⊢
      have : A i j ≠ -1000000000000000 := by intro e; rw [e] at hne; omega
      have := hA i j this
      exact .inr ⟨[], lo_nil _, by assumption, by show A i j = _; omega⟩
  · have : m = [] := by
      cases m with
      | nil => rfl
      | cons x m => exact absurd (lo_cons.1 hm).1 (Nat.not_lt_zero _)
    subst this
    have h1 := hA i j hw
    rw [hS i j hi hj]
    show A i j ≤ _ ∧ _
    omega
  · rw [hS i i hi hi]; unfold unitF; rw [if_pos rfl]; omega

/-- the state at the end -/
theorem FW.star {n : Nat} {S : Nat → Nat → Int} (h : FW A n n S) : IsStar A n S := by
  intro i j hi hj
  by_cases hne : S i j = -1000000000000000
  · refine .inl ⟨hne, fun s hs => ?_⟩
    rcases hs with ⟨rfl, _⟩ | ⟨m, h1, h2, _⟩
    · have := h.diag i hi; omega
    · exact (h.full i j m hi hj h1 h2).2 hne
  · refine .inr ⟨h.sound i j hi hj hne, fun s hs => ?_⟩
    rcases hs with ⟨rfl, e⟩ | ⟨m, h1, h2, e⟩
    · have := h.diag i hi; omega
    · have := (h.full i j m hi hj h1 h2).1; omega
/-- a positive entry of the diagonal -/
theorem FW.pos {n k v : Nat} {S : Nat → Nat → Int} (h : FW A n k S) (hk : k ≤ n) (hv : v < n) (hp : 0 < S v v) : ¬ NoPos A n := by
  intro hN
  rcases h.sound v v hv hv (by omega) with ⟨_, e⟩ | ⟨m, h1, h2, h3⟩
  · omega
  · have := hN v m hv (h1.mono hk) h2; omega

/-- the reference's rounds: walks of at most k arcs -/
def WPk (A : Nat → Nat → Int) (n k i j : Nat) (s : Int) : Prop := (i = j ∧ s = 0) ∨ ∃ m, m.length + 1 ≤ k ∧ lo n m ∧ wk A i m j ∧ wt A i m j = s
def roundF (n : Nat) (A S : Nat → Nat → Int) (i j : Nat) : Int := max (unitF i j) (mx n fun k => times (A i k) (S k j))
theorem mx_spec {n : Nat} {f : Nat → Int} : (mx n f = -1000000000000000 ∨ ∃ k, k < n ∧ mx n f = f k) ∧ ∀ k, k < n → f k ≤ mx n f := by
  induction n with
  | zero => exact ⟨.inl rfl, fun k h => absurd h (Nat.not_lt_zero _)⟩
  | succ n ih =>
    simp only [mx]
    refine ⟨?_, fun k hk => ?_⟩
    · by_cases h : mx n f ≤ f n
      · exact .inr ⟨n, by omega, by omega⟩
      · rw [show max (mx n f) (f n) = mx n f by omega]
        rcases ih.1 with e | ⟨k, h1, h2⟩
        · exact .inl e
        · exact .inr ⟨k, by omega, h2⟩
    · by_cases e : k = n
      · subst e; omega
      · have := ih.2 k (by omega); omega
theorem round_top {n k : Nat} {S : Nat → Nat → Int} {M : Int} (h0 : 0 ≤ M) (hM : ∀ i j, A i j ≠ -1000000000000000 → -M ≤ A i j ∧ A i j ≤ M) (hb : M * ((k : Int) + 1) ≤ 100000000000000)
    (h : ∀ i j, i < n → j < n → Top (WPk A n k i j) (S i j)) : ∀ i j, i < n → j < n → Top (WPk A n (k + 1) i j) (roundF n A S i j) := by
  have hbM : M ≤ 100000000000000 := by
    have := mul_mono h0 (show (1 : Int) ≤ (k : Int) + 1 by omega); omega
  have hSb : ∀ i j, i < n → j < n → S i j ≠ -1000000000000000 → -100000000000000 ≤ S i j ∧ S i j ≤ 100000000000000 := fun i j hi hj hne => by
    rcases h i j hi hj with ⟨e, _⟩ | ⟨h1, _⟩
    · exact absurd e hne
    · rcases h1 with ⟨_, e⟩ | ⟨m, a1, a2, a3, a4⟩
      · omega
      · have := wt_bd hM a3
        have := mul_mono h0 (show (m.length : Int) + 1 ≤ (k : Int) + 1 by omega)
        omega
  intro i j hi hj
  have hms := mx_spec (n := n) (f := fun k => times (A i k) (S k j))
  -- every weight is at most the entry
  have hup : ∀ s, WPk A n (k + 1) i j s → s ≤ roundF n A S i j ∧ -200000000000000 ≤ roundF n A S i j := by
    intro s hs
    unfold roundF unitF
    rcases hs with ⟨e, rfl⟩ | ⟨m, a1, a2, a3, a4⟩
    · rw [if_pos e]; omega
    · cases m with
      | nil =>
        -- one arc: A i j + S j j, S j j at least 0
        have hjj : 0 ≤ S j j ∧ S j j ≠ -1000000000000000 := by
          rcases h j j hj hj with ⟨e, h2⟩ | ⟨_, h2⟩
          · exact absurd (.inl ⟨rfl, rfl⟩) (h2 0)
          · have := h2 0 (.inl ⟨rfl, rfl⟩); omega
        have h1 := hms.2 j hj
        have hne : A i j ≠ -1000000000000000 := a3
        have et : times (A i j) (S j j) = A i j + S j j := by unfold times; rw [if_neg (by omega)]
        simp only [et] at h1
        have hAb := hM i j hne
        have : A i j = s := a4
        omega
      | cons x m =>
        have hx := lo_cons.1 a2
        simp only [List.length_cons] at a1
        have hxj : wt A x m j ≤ S x j ∧ S x j ≠ -1000000000000000 := by
          have hp : WPk A n k x j (wt A x m j) := .inr ⟨m, by omega, hx.2, a3.2, rfl⟩
          rcases h x j hx.1 hj with ⟨e, h2⟩ | ⟨h1, h2⟩
          · exact absurd hp (h2 _)
          · refine ⟨h2 _ hp, ?_⟩
            have := wt_bd hM a3.2
            have := mul_mono h0 (show (m.length : Int) + 1 ≤ (k : Int) + 1 by omega)
            have := h2 _ hp
            omega
        have h1 := hms.2 x hx.1
        have et : times (A i x) (S x j) = A i x + S x j := by
          unfold times; rw [if_neg (by have := a3.1; have := hxj.2; omega)]
        simp only [et] at h1
        have hAb := hM i x a3.1
        have hsb := hSb x j hx.1 hj hxj.2
        simp only [wt] at a4
        omega
  by_cases hex : ∃ s, WPk A n (k + 1) i j s
  · obtain ⟨s0, hs0⟩ := hex
    have hge := (hup s0 hs0).2
    refine .inr ⟨?_, fun s hs => (hup s hs).1⟩
    unfold roundF at hge ⊢
    by_cases hu : mx n (fun k => times (A i k) (S k j)) ≤ unitF i j
    · rw [show max (unitF i j) (mx n fun k => times (A i k) (S k j)) = unitF i j by omega] at hge ⊢
      unfold unitF at hge ⊢
      split
      · rename_i e; exact .inl ⟨e, rfl⟩
      · rename_i e; rw [if_neg e] at hge; omega
    · rw [show max (unitF i j) (mx n fun k => times (A i k) (S k j)) = mx n (fun k => times (A i k) (S k j)) by omega] at hge ⊢
      rcases hms.1 with e | ⟨x, hx, e⟩
      · omega
      · rw [e] at hge ⊢
        have hne : ¬ (A i x = -1000000000000000 ∨ S x j = -1000000000000000) := by
          intro e; unfold times at hge; rw [if_pos e] at hge; omega
        have et : times (A i x) (S x j) = A i x + S x j := by unfold times; rw [if_neg hne]
        rw [et]
        have e1 : A i x ≠ -1000000000000000 := fun e => hne (.inl e)
        have e2 : S x j ≠ -1000000000000000 := fun e => hne (.inr e)
        rcases h x j hx hj with ⟨e, _⟩ | ⟨h1, _⟩
        · exact absurd e e2
        · rcases h1 with ⟨rfl, z⟩ | ⟨m, a1, a2, a3, a4⟩
          · exact .inr ⟨[], by simp, lo_nil _, e1, by show A i x = _; omega⟩
          · exact .inr ⟨x :: m, by simp only [List.length_cons]; omega, lo_cons.2 ⟨hx, a2⟩, ⟨e1, a3⟩, by simp only [wt]; omega⟩
  · refine .inl ⟨?_, fun s hs => hex ⟨s, hs⟩⟩
    unfold roundF
    have hij : i ≠ j := fun e => hex ⟨0, .inl ⟨e, rfl⟩⟩
    have hu : unitF i j = -1000000000000000 := by unfold unitF; rw [if_neg hij]
    rw [hu]
    rcases hms.1 with e | ⟨x, hx, e⟩
    · omega
    · by_cases hne : A i x = -1000000000000000 ∨ S x j = -1000000000000000
      · have : times (A i x) (S x j) = -1000000000000000 := by unfold times; rw [if_pos hne]
        omega
      · exfalso
        have e1 : A i x ≠ -1000000000000000 := fun e => hne (.inl e)
        have e2 : S x j ≠ -1000000000000000 := fun e => hne (.inr e)
        rcases h x j hx hj with ⟨e, _⟩ | ⟨h1, _⟩
        · exact e2 e
        · rcases h1 with ⟨rfl, z⟩ | ⟨m, a1, a2, a3, a4⟩
          · exact hex ⟨A i x, .inr ⟨[], by simp, lo_nil _, e1, rfl⟩⟩
          · exact hex ⟨_, .inr ⟨x :: m, by simp only [List.length_cons]; omega, lo_cons.2 ⟨hx, a2⟩, ⟨e1, a3⟩, rfl⟩⟩
theorem round_start (A : Nat → Nat → Int) (n : Nat) : ∀ i j, i < n → j < n → Top (WPk A n 0 i j) (unitF i j) := by
  intro i j hi hj
  unfold unitF
  split
  · rename_i e; exact .inr ⟨.inl ⟨e, rfl⟩, fun s hs => by
      rcases hs with ⟨_, rfl⟩ | ⟨m, h, _⟩
      · exact Int.le_refl _
      · omega⟩
  · rename_i e; exact .inl ⟨rfl, fun s hs => by
      rcases hs with ⟨e', _⟩ | ⟨m, h, _⟩
      · exact e e'
      · omega⟩
/-- n rounds are enough without a positive cycle -/
theorem star_of_round {n k : Nat} {S : Nat → Nat → Int} (hN : NoPos A n) (hk : n ≤ k) (h : ∀ i j, i < n → j < n → Top (WPk A n k i j) (S i j)) : IsStar A n S := by
  intro i j hi hj
  have hp : ∀ s, WP A n i j s → ∃ s', WPk A n k i j s' ∧ s ≤ s' := by
    intro s hs
    rcases hs with h1 | ⟨m, a1, a2, a3⟩
    · exact ⟨s, .inl h1, Int.le_refl _⟩
    · obtain ⟨m', b1, b2, _, b4, b5⟩ := simple hN m i hi a1 a2
      have := simple_len b1 hi b2
      exact ⟨_, .inr ⟨m', by omega, b2, b4, rfl⟩, by omega⟩
  have hq : ∀ s, WPk A n k i j s → WP A n i j s := by
    intro s hs
    rcases hs with h1 | ⟨m, _, a2, a3, a4⟩
    · exact .inl h1
    · exact .inr ⟨m, a2, a3, a4⟩
  rcases h i j hi hj with ⟨e, h2⟩ | ⟨h1, h2⟩
  · exact .inl ⟨e, fun s hs => by obtain ⟨s', h3, _⟩ := hp s hs; exact h2 s' h3⟩
  · exact .inr ⟨hq _ h1, fun s hs => by obtain ⟨s', h3, h4⟩ := hp s hs; have := h2 s' h3; omega⟩
/-- a round that changes nothing shows that there is no positive cycle -/
theorem fix_nopos {n : Nat} {S : Nat → Nat → Int} {M : Int} (h0 : 0 ≤ M) (hM : ∀ i j, A i j ≠ -1000000000000000 → -M ≤ A i j ∧ A i j ≤ M) (hMb : M ≤ 100000000000000)
    (hS : ∀ i j, i < n → j < n → S i j ≠ -1000000000000000 → -100000000000000 ≤ S i j ∧ S i j ≤ 100000000000000)
    (hfix : ∀ i j, i < n → j < n → S i j = roundF n A S i j) : NoPos A n := by
  have hstep : ∀ i x j, i < n → x < n → j < n → A i x ≠ -1000000000000000 → S x j ≠ -1000000000000000 → A i x + S x j ≤ S i j ∧ S i j ≠ -1000000000000000 := fun i x j hi hx hj h1 h2 => by
    have e := hfix i j hi hj
    have hms := (mx_spec (n := n) (f := fun k => times (A i k) (S k j))).2 x hx
    have et : times (A i x) (S x j) = A i x + S x j := by unfold times; rw [if_neg (by omega)]
    simp only [et] at hms
    have := hM i x h1
    have := hS x j hx hj h2
    unfold roundF at e
    omega
  have hdiag : ∀ v, v < n → 0 ≤ S v v := fun v hv => by
    have := hfix v v hv hv
    unfold roundF unitF at this
    rw [if_pos rfl] at this; omega
  have hwalk : ∀ (m : List Nat) (i j : Nat), i < n → j < n → lo n m → wk A i m j → wt A i m j + S j j ≤ S i j ∧ S i j ≠ -1000000000000000 := by
    intro m
    induction m with
    | nil => intro i j hi hj _ hw; exact hstep i j j hi hj hj hw (by have := hdiag j hj; omega)
    | cons x m ih =>
      intro i j hi hj hm hw
      have hx := lo_cons.1 hm
      have h1 := ih x j hx.1 hj hx.2 hw.2
      have h2 := hstep i x j hi hx.1 hj hw.1 h1.2
      simp only [wt]
      exact ⟨by omega, h2.2⟩
  intro v m hv hm hw
  have := hwalk m v v hv hv hm hw
  omega
theorem star_fix {n k : Nat} {S : Nat → Nat → Int} {M : Int} (h0 : 0 ≤ M) (hM : ∀ i j, A i j ≠ -1000000000000000 → -M ≤ A i j ∧ A i j ≤ M) (hb : M * ((k : Int) + 1) ≤ 100000000000000) (hN : NoPos A n) (hk : n ≤ k)
    (h : ∀ i j, i < n → j < n → Top (WPk A n k i j) (S i j)) : ∀ i j, i < n → j < n → S i j = roundF n A S i j := fun i j hi hj =>
  (star_of_round hN hk h i j hi hj).eq (star_of_round hN (show n ≤ k + 1 by omega) (round_top h0 hM hb h) i j hi hj)
end Go.Proofs.Ytokhkpbebimohaa

/- Plain law: the program's star and the reference's are the same, and so is whether there is one. No program in sight. -/
namespace Go.Proofs.Ytokhkpbebimohaa
set_option linter.unusedVariables false

def fwS (A : Nat → Nat → Int) : Nat → Nat → Nat → Int
  | 0 => fun i j => max (A i j) (unitF i j)
  | k + 1 => fwF k (fwS A k)
/-- the checks ahead of the stages below k -/
def fwB (A : Nat → Nat → Int) (k : Nat) : Bool := (List.range k).all fun i => decide (fwS A i i i ≤ 0)
def fwD (A : Nat → Nat → Int) (n k : Nat) : Bool := (List.range k).all fun i => decide (fwS A n i i ≤ 0)
theorem fwB_succ (A : Nat → Nat → Int) (k : Nat) : fwB A (k + 1) = (fwB A k && decide (fwS A k k k ≤ 0)) := by unfold fwB; simp [List.range_succ, List.all_append]
theorem fwD_succ (A : Nat → Nat → Int) (n k : Nat) : fwD A n (k + 1) = (fwD A n k && decide (fwS A n k k ≤ 0)) := by unfold fwD; simp [List.range_succ, List.all_append]
def starB (A : Nat → Nat → Int) (n : Nat) : Bool := fwB A n && fwD A n n
theorem starB_no1 {A : Nat → Nat → Int} {n k : Nat} (hk : k < n) (h : ¬ fwS A k k k ≤ 0) : starB A n = false := by
  cases e : starB A n
  · rfl
  · unfold starB fwB at e
    rw [Bool.and_eq_true, List.all_eq_true] at e
    have := e.1 k (List.mem_range.2 hk)
    simp only [decide_eq_true_eq] at this
    exact absurd this h
theorem starB_no2 {A : Nat → Nat → Int} {n k : Nat} (hk : k < n) (h : ¬ fwS A n k k ≤ 0) : starB A n = false := by
  cases e : starB A n
  · rfl
  · unfold starB fwD at e
    rw [Bool.and_eq_true, List.all_eq_true] at e
    have := e.2 k (List.mem_range.2 hk)
    simp only [decide_eq_true_eq] at this
    exact absurd this h
/-- the bounds of a matrix -/
structure ABd (A : Nat → Nat → Int) (n : Nat) (M : Int) : Prop where
  pos : 0 ≤ M
  bd : ∀ i j, A i j ≠ -1000000000000000 → -M ≤ A i j ∧ A i j ≤ M
  top : M * ((n : Int) + 2) ≤ 100000000000000
theorem ABd.le {A : Nat → Nat → Int} {n : Nat} {M : Int} (h : ABd A n M) {k : Nat} (hk : k ≤ n + 1) : M * ((k : Int) + 1) ≤ 100000000000000 := by
  have := mul_mono h.pos (show (k : Int) + 1 ≤ (n : Int) + 2 by omega); have := h.top; omega
theorem ABd.one {A : Nat → Nat → Int} {n : Nat} {M : Int} (h : ABd A n M) : M ≤ 100000000000000 := by
  have := h.le (k := 0) (by omega); omega
theorem fw_inv {A : Nat → Nat → Int} {n : Nat} {M : Int} (h : ABd A n M) : ∀ k, k ≤ n → fwB A k = true → FW A n k (fwS A k)
  | 0, _, _ => FW.start A n (fun _ _ _ _ => rfl) fun i j hne => by have := h.bd i j hne; have := h.one; omega
  | k + 1, hk, hb => by
    rw [fwB_succ, Bool.and_eq_true, decide_eq_true_eq] at hb
    exact (fw_inv h k (by omega) hb.1).step (by omega) hb.2 h.pos h.bd (h.le (by omega))
theorem fw_bd {A : Nat → Nat → Int} {n k : Nat} {M : Int} (h : ABd A n M) (hk : k ≤ n) (hb : fwB A k = true) {i j : Nat} (hi : i < n) (hj : j < n) : -1000000000000000 ≤ fwS A k i j ∧ fwS A k i j ≤ 100000000000000 := by
  have hF := fw_inv h k hk hb
  have := h.le (k := n) (by omega)
  rcases Classical.em (fwS A k i j = -1000000000000000) with e | e
  · omega
  · have := hF.bd hk h.pos h.bd hi hj e; omega
theorem fw_diag {A : Nat → Nat → Int} {n k : Nat} {M : Int} (h : ABd A n M) (hk : k < n) (hb : fwB A k = true) (hd : fwS A k k k ≤ 0) : fwS A k k k = 0 := by
  have := (fw_inv h k (by omega) hb).diag k hk; omega
theorem fwF_col {k : Nat} {S : Nat → Nat → Int} (h : S k k = 0) (i : Nat) (hb : -1000000000000000 ≤ S i k) : fwF k S i k = S i k := by
  unfold fwF times; rw [h]; split <;> omega
theorem fwF_row {k : Nat} {S : Nat → Nat → Int} (h : S k k = 0) (j : Nat) (hb : -1000000000000000 ≤ S k j) : fwF k S k j = S k j := by
  unfold fwF times; rw [h]; split <;> omega

def rdS (n : Nat) (A : Nat → Nat → Int) : Nat → Nat → Nat → Int
  | 0 => unitF
  | k + 1 => roundF n A (rdS n A k)
theorem rd_top {A : Nat → Nat → Int} {n : Nat} {M : Int} (h : ABd A n M) : ∀ k, k ≤ n + 1 → ∀ i j, i < n → j < n → Top (WPk A n k i j) (rdS n A k i j)
  | 0, _ => round_start A n
  | k + 1, hk => round_top h.pos h.bd (h.le (by omega)) (rd_top h k (by omega))
theorem rd_bd {A : Nat → Nat → Int} {n : Nat} {M : Int} (h : ABd A n M) {k : Nat} (hk : k ≤ n + 1) {i j : Nat} (hi : i < n) (hj : j < n) : -1000000000000000 ≤ rdS n A k i j ∧ rdS n A k i j ≤ 100000000000000 ∧ (rdS n A k i j ≠ -1000000000000000 → -100000000000000 ≤ rdS n A k i j) := by
  rcases rd_top h k hk i j hi hj with ⟨e, _⟩ | ⟨h1, _⟩
  · rw [e]; omega
  · rcases h1 with ⟨_, e⟩ | ⟨m, a1, a2, a3, a4⟩
    · rw [e]; omega
    · have := wt_bd h.bd a3
      have := mul_mono h.pos (show (m.length : Int) + 1 ≤ (k : Int) + 1 by omega)
      have := h.le hk
      omega
theorem NoPos.of_star {A : Nat → Nat → Int} {n : Nat} {M : Int} (h : ABd A n M) (hs : starB A n = true) : NoPos A n := by
  unfold starB at hs
  rw [Bool.and_eq_true] at hs
  exact (fw_inv h n (Nat.le_refl _) hs.1).none
theorem star_of_NoPos {A : Nat → Nat → Int} {n : Nat} {M : Int} (h : ABd A n M) (hN : NoPos A n) : starB A n = true := by
  have hB : ∀ k, k ≤ n → fwB A k = true := by
    intro k
    induction k with
    | zero => intro _; rfl
    | succ k ih =>
      intro hk
      have h1 := ih (by omega)
      rw [fwB_succ, h1, Bool.true_and, decide_eq_true_eq]
      rcases Classical.em (fwS A k k k ≤ 0) with e | e
      · exact e
      · exact absurd hN ((fw_inv h k (by omega) h1).pos (by omega) (show k < n by omega) (by omega))
  have h1 := hB n (Nat.le_refl _)
  unfold starB
  rw [h1, Bool.true_and]
  unfold fwD
  rw [List.all_eq_true]
  intro k hk
  have hk := List.mem_range.1 hk
  rw [decide_eq_true_eq]
  rcases Classical.em (fwS A n k k ≤ 0) with e | e
  · exact e
  · exact absurd hN ((fw_inv h n (Nat.le_refl _) h1).pos (Nat.le_refl _) hk (by omega))
theorem starB_iff {A : Nat → Nat → Int} {n : Nat} {M : Int} (h : ABd A n M) : starB A n = true ↔ NoPos A n := ⟨NoPos.of_star h, star_of_NoPos h⟩
/-- the reference's test -/
theorem rd_fix {A : Nat → Nat → Int} {n : Nat} {M : Int} (h : ABd A n M) : (∀ i j, i < n → j < n → rdS n A n i j = rdS n A (n + 1) i j) ↔ starB A n = true := by
  rw [starB_iff h]
  constructor
  · intro e
    exact fix_nopos h.pos h.bd h.one (fun i j hi hj hne => by have := rd_bd h (k := n) (by omega) hi hj; exact ⟨this.2.2 hne, this.2.1⟩) e
  · intro hN
    exact star_fix h.pos h.bd (h.le (by omega)) hN (Nat.le_refl n) (rd_top h n (by omega))
theorem star_isStar {A : Nat → Nat → Int} {n : Nat} {M : Int} (h : ABd A n M) (hs : starB A n = true) : IsStar A n (fwS A n) := by
  unfold starB at hs
  rw [Bool.and_eq_true] at hs
  exact (fw_inv h n (Nat.le_refl _) hs.1).star
theorem star_eq {A : Nat → Nat → Int} {n : Nat} {M : Int} (h : ABd A n M) (hs : starB A n = true) : ∀ i j, i < n → j < n → rdS n A n i j = fwS A n i j := fun i j hi hj =>
  (star_of_round (NoPos.of_star h hs) (Nat.le_refl n) (rd_top h n (by omega)) i j hi hj).eq (star_isStar h hs i j hi hj)
end Go.Proofs.Ytokhkpbebimohaa

/- Plain words: what StarMatrix, PlusMatrix, FixedPoint and PotentialOf hand back. No program in sight. -/
namespace Go.Proofs.Ytokhkpbebimohaa
set_option linter.unusedVariables false

theorem isSq_abd {x : List (List Int)} (h : isSq x = true) : ABd (ent x) x.length 1000000 :=
  ⟨by omega, fun i j hne => isSq_ebd1 h hne, by have := isSq_rect h; omega⟩
theorem shiftM_abd {x : List (List Int)} (h : isSq x = true) {num den : Int} (hn : -1000000 ≤ num ∧ num ≤ 1000000) (hd : -1000000 ≤ den ∧ den ≤ 1000000) : ABd (ent (shiftM x num den)) x.length 1000001000000 := by
  have hr := isSq_rect h
  refine ⟨by omega, fun i j hne => ?_, by omega⟩
  by_cases e : i < x.length ∧ j < x.length
  · have he : ent (shiftM x num den) i j = shiftE x num den i j := mkMat_ent e.1 e.2
    rw [he] at hne ⊢
    rcases shiftE_bd h hn hd e.1 e.2 with b | b
    · exact absurd b hne
    · exact b
  · have h0 : ent (shiftM x num den) i j = 0 := ent_out (rect_mk x.length x.length (shiftE x num den)) e
    omega
/-- the star of the matrix y with n rows -/
def starM (y : List (List Int)) (n : Nat) : List (List Int) := mkMat n n (fwS (ent y) n)
theorem starM_rect (y : List (List Int)) (n : Nat) : Rect (starM y n) n n := rect_mk _ _ _
theorem starM_ebd {y : List (List Int)} {n : Nat} {M : Int} (h : ABd (ent y) n M) (hs : starB (ent y) n = true) : EBd 1000000000000000 (starM y n) := by
  unfold starB at hs
  rw [Bool.and_eq_true] at hs
  exact ebd_mk (by omega) fun i j hi hj => by have := fw_bd h (Nat.le_refl n) hs.1 hi hj; omega
def starV (x : List (List Int)) : List (List Int) × Int := if isSq x then (if starB (ent x) x.length then chkM (starM x x.length) else ([], 5)) else ([], 1)
def plusV (x : List (List Int)) : List (List Int) × Int := if isSq x then (if starB (ent x) x.length then chkM (mkMat x.length x.length (mulE x.length x (starM x x.length))) else ([], 5)) else ([], 1)
def fixV (x : List (List Int)) (b : List Int) : List Int × Int :=
  if isSq x && isVec b then (if starB (ent x) x.length && x.length == b.length then chkX (mkRow x.length (appF x.length (starM x x.length) b)) else ([], 5)) else ([], 1)
def zeros (n : Nat) : List Int := List.replicate n 0
def potV (x : List (List Int)) (r : Int × Int) : List Int × Int :=
  if isSq x && isRat r then (if starB (ent (shiftM x r.1 r.2)) x.length then chkX (mkRow x.length (appF x.length (starM (shiftM x r.1 r.2) x.length) (zeros x.length))) else ([], 5)) else ([], 1)
theorem starV_tot (x : List (List Int)) : tot (starV x).1 ≤ 1000000 := by
  unfold starV; split
  · rename_i h
    have := isSq_rect h
    split
    · exact chkM_tot (tot_small _ (by omega) (by omega))
    · simp [tot]
  · simp [tot]
theorem plusV_tot (x : List (List Int)) : tot (plusV x).1 ≤ 1000000 := by
  unfold plusV; split
  · rename_i h
    have := isSq_rect h
    split
    · exact chkM_tot (tot_small _ (by omega) (by omega))
    · simp [tot]
  · simp [tot]
theorem fixV_len (x : List (List Int)) (b : List Int) : (fixV x b).1.length ≤ 1000000 := by
  unfold fixV; split
  · rename_i h
    rw [Bool.and_eq_true] at h
    have := isSq_rect h.1
    split
    · exact chkX_len (by rw [mkRow_len]; omega)
    · simp
  · simp
theorem potV_len (x : List (List Int)) (r : Int × Int) : (potV x r).1.length ≤ 1000000 := by
  unfold potV; split
  · rename_i h
    rw [Bool.and_eq_true] at h
    have := isSq_rect h.1
    split
    · exact chkX_len (by rw [mkRow_len]; omega)
    · simp
  · simp
theorem zeros_nth {n i : Nat} : nth (zeros n) i = 0 := by
  unfold nth zeros; simp [List.getD_eq_getElem?_getD, List.getElem?_replicate]; split <;> rfl
theorem zeros_vbd (n : Nat) : VBd 1000000000000000 (zeros n) := fun i => by rw [zeros_nth]; omega
/-- the potentials are at least 0: never Bottom -/
theorem pot_nonneg {y : List (List Int)} {n : Nat} {M : Int} (h : ABd (ent y) n M) (hs : starB (ent y) n = true) {i : Nat} (hi : i < n) : 0 ≤ appF n (starM y n) (zeros n) i := by
  have hsd := hs
  unfold starB at hsd
  rw [Bool.and_eq_true] at hsd
  have hd := (fw_inv h n (Nat.le_refl n) hsd.1).diag i hi
  have h1 := (mx_spec (n := n) (f := fun k => times (ent (starM y n) i k) (nth (zeros n) k))).2 i hi
  have he : ent (starM y n) i i = fwS (ent y) n i i := mkMat_ent hi hi
  have et : times (ent (starM y n) i i) (nth (zeros n) i) = fwS (ent y) n i i := by rw [he, zeros_nth]; unfold times; rw [if_neg (by omega)]; omega
  simp only [et] at h1
  unfold appF
  omega
theorem pot_all {y : List (List Int)} {n : Nat} {M : Int} (h : ABd (ent y) n M) (hs : starB (ent y) n = true) : allF (mkRow n (appF n (starM y n) (zeros n))) = allV (mkRow n (appF n (starM y n) (zeros n))) := by
  rw [Bool.eq_iff_iff, allF_iff, allV_iff]
  constructor
  · intro e i hi; have := fin_iff.1 (e i hi); rw [isVal_iff]; omega
  · intro e i hi
    have h1 := isVal_iff.1 (e i hi)
    rw [mkRow_len] at hi
    have h2 := pot_nonneg h hs hi
    rw [mkRow_nth hi] at h1 ⊢
    rw [fin_iff]; omega
end Go.Proofs.Ytokhkpbebimohaa

/- Plain law: Karp's theorem on greatest means of cycles, and cycles made simple. A list of nodes stands for a walk, each node entered from the next. No program in sight. -/
namespace Go.Proofs.Ytokhkpbebimohaa
set_option linter.unusedVariables false

/-- the weight of a list of nodes, each entered from the next; no arc is missing -/
def fw (A : Nat → Nat → Int) : List Nat → Int
  | [] => 0
  | [_] => 0
  | x :: y :: l => A x y + fw A (y :: l)
def fk (A : Nat → Nat → Int) : List Nat → Prop
  | [] => True
  | [_] => True
  | x :: y :: l => A x y ≠ -1000000000000000 ∧ fk A (y :: l)
theorem fw_app (A : Nat → Nat → Int) : ∀ (s : List Nat) (x : Nat) (t : List Nat), fw A (s ++ x :: t) = fw A (s ++ [x]) + fw A (x :: t)
  | [], x, t => by show fw A (x :: t) = 0 + fw A (x :: t); omega
  | [y], x, t => by show A y x + fw A (x :: t) = (A y x + 0) + fw A (x :: t); omega
  | y :: z :: s, x, t => by
    have ih := fw_app A (z :: s) x t
    simp only [List.cons_append] at ih ⊢
    show A y z + fw A (z :: (s ++ x :: t)) = (A y z + fw A (z :: (s ++ [x]))) + fw A (x :: t)
    omega
theorem fk_app (A : Nat → Nat → Int) : ∀ (s : List Nat) (x : Nat) (t : List Nat), fk A (s ++ x :: t) ↔ fk A (s ++ [x]) ∧ fk A (x :: t)
  | [], x, t => ⟨fun h => ⟨trivial, h⟩, fun h => h.2⟩
  | [y], x, t => ⟨fun h => ⟨⟨h.1, trivial⟩, h.2⟩, fun h => ⟨h.1.1, h.2⟩⟩
  | y :: z :: s, x, t => by
    have ih := fk_app A (z :: s) x t
    simp only [List.cons_append] at ih ⊢
    exact ⟨fun h => ⟨⟨h.1, (ih.1 h.2).1⟩, (ih.1 h.2).2⟩, fun h => ⟨h.1.1, ih.2 ⟨h.1.2, h.2⟩⟩⟩
theorem dup_split : ∀ (l : List Nat), ¬ l.Nodup → ∃ s x t r, l = s ++ x :: (t ++ x :: r)
  | [], h => absurd List.nodup_nil h
  | y :: l, h => by
    by_cases hy : y ∈ l
    · obtain ⟨t, r, e⟩ := List.append_of_mem hy
      exact ⟨[], y, t, r, by rw [e]; rfl⟩
    · have h2 : ¬ l.Nodup := fun h3 => h (List.nodup_cons.2 ⟨hy, h3⟩)
      obtain ⟨s, x, t, r, e⟩ := dup_split l h2
      exact ⟨y :: s, x, t, r, by rw [e]; rfl⟩
theorem snoc_cases (t : List Nat) : t = [] ∨ ∃ t' x, t = t' ++ [x] := by
  induction t with
  | nil => exact .inl rfl
  | cons a t ih =>
    rcases ih with rfl | ⟨t', x, rfl⟩
    · exact .inr ⟨[], a, rfl⟩
    · exact .inr ⟨a :: t', x, rfl⟩

section
variable {A : Nat → Nat → Int} {n : Nat} {q p : Int}
theorem fwl_bd (hM : ∀ i j, A i j ≠ -1000000000000000 → -1000000 ≤ A i j ∧ A i j ≤ 1000000) : ∀ (l : List Nat) (v : Nat), fk A (v :: l) → -1000000 * (l.length : Int) ≤ fw A (v :: l) ∧ fw A (v :: l) ≤ 1000000 * (l.length : Int)
  | [], v, h => by show _ ≤ (0 : Int) ∧ (0 : Int) ≤ _; simp
  | y :: l, v, h => by
    have h1 := hM v y h.1
    have h2 := fwl_bd hM l y h.2
    show _ ≤ A v y + fw A (y :: l) ∧ A v y + fw A (y :: l) ≤ _
    simp only [List.length_cons]; omega

/-- a walk of k arcs that ends at v and weighs s -/
def WL (A : Nat → Nat → Int) (n k v : Nat) (s : Int) : Prop := ∃ l : List Nat, l.length = k ∧ lo n (v :: l) ∧ fk A (v :: l) ∧ fw A (v :: l) = s
theorem WL.bd (hM : ∀ i j, A i j ≠ -1000000000000000 → -1000000 ≤ A i j ∧ A i j ≤ 1000000) {k v : Nat} {s : Int} (h : WL A n k v s) : -1000000 * (k : Int) ≤ s ∧ s ≤ 1000000 * (k : Int) := by
  obtain ⟨l, h1, h2, h3, h4⟩ := h
  have := fwl_bd hM l v h3
  rw [h1, h4] at this; exact this
/-- no closed walk has a mean above p / q -/
def NoOver (A : Nat → Nat → Int) (n : Nat) (q p : Int) : Prop := ∀ c t, lo n (c :: t) → fk A (c :: (t ++ [c])) → q * fw A (c :: (t ++ [c])) ≤ p * ((t.length : Int) + 1)

theorem cut1 (hN : NoOver A n q p) {k v : Nat} {s : Int} (h : WL A n k v s) (hk : n ≤ k) : ∃ k' s', k' < k ∧ WL A n k' v s' ∧ q * s - p * (k : Int) ≤ q * s' - p * (k' : Int) := by
  obtain ⟨l, h1, h2, h3, h4⟩ := h
  have hd : ¬ (v :: l).Nodup := fun hd => by
    have := nodup_len n _ hd h2
    simp only [List.length_cons] at this; omega
  obtain ⟨s1, x, t, r, e⟩ := dup_split _ hd
  have hex : ∃ l', s1 ++ x :: r = v :: l' := by
    cases s1 with
    | nil => 
      simp only [List.nil_append, List.cons.injEq] at e
      exact ⟨r, by rw [e.1]; rfl⟩
    | cons y s1 =>
      simp only [List.cons_append, List.cons.injEq] at e
      exact ⟨s1 ++ x :: r, by rw [e.1]; rfl⟩
  obtain ⟨l', hl'⟩ := hex
  have hlen1 : l.length + 1 = s1.length + (t.length + (r.length + 1) + 1) := by
    have := congrArg List.length e
    simpa using this
  have hlen2 : s1.length + (r.length + 1) = l'.length + 1 := by
    have := congrArg List.length hl'
    simpa using this
  rw [e] at h2 h3 h4
  have c1 := fw_app A s1 x (t ++ x :: r)
  have c2 : fw A (x :: (t ++ x :: r)) = fw A (x :: (t ++ [x])) + fw A (x :: r) := fw_app A (x :: t) x r
  have c3 := fw_app A s1 x r
  have k1 := (fk_app A s1 x (t ++ x :: r)).1 h3
  have k2 : fk A (x :: (t ++ [x])) ∧ fk A (x :: r) := (fk_app A (x :: t) x r).1 k1.2
  have k3 := (fk_app A s1 x r).2 ⟨k1.1, k2.2⟩
  have hmem : ∀ y, y ∈ s1 ∨ y = x ∨ y ∈ t ∨ y ∈ r → y < n := fun y hy => h2 y (by
    simp only [List.mem_append, List.mem_cons]
    rcases hy with h | h | h | h
    · exact .inl h
    · exact .inr (.inl h)
    · exact .inr (.inr (.inl h))
    · exact .inr (.inr (.inr (.inr h))))
  have hcy := hN x t (fun y hy => hmem y (by
    rcases List.mem_cons.1 hy with h | h
    · exact .inr (.inl h)
    · exact .inr (.inr (.inl h)))) k2.1
  have hlo' : lo n (s1 ++ x :: r) := fun y hy => hmem y (by
    rcases List.mem_append.1 hy with h | h
    · exact .inl h
    · rcases List.mem_cons.1 h with h | h
      · exact .inr (.inl h)
      · exact .inr (.inr (.inr h)))
  refine ⟨l'.length, fw A (v :: l'), by omega, ⟨l', rfl, by rw [← hl']; exact hlo', by rw [← hl']; exact k3, rfl⟩, ?_⟩
  rw [← hl', c3, ← h4, c1, c2]
  have hkk : (k : Int) = (l'.length : Int) + ((t.length : Int) + 1) := by omega
  rw [hkk, Int.mul_add p, Int.mul_add q, Int.mul_add q, Int.mul_add q]
  omega
theorem cutN (hn : 0 < n) (hN : NoOver A n q p) {v : Nat} : ∀ (k : Nat) (s : Int), WL A n k v s → ∃ k' s', k' < n ∧ WL A n k' v s' ∧ q * s - p * (k : Int) ≤ q * s' - p * (k' : Int) := by
  intro k
  induction k using Nat.strongRecOn with
  | ind k ih =>
    intro s h
    by_cases hk : k < n
    · exact ⟨k, s, hk, h, Int.le_refl _⟩
    · obtain ⟨k', s', h1, h2, h3⟩ := cut1 hN h (by omega)
      obtain ⟨k2, s2, h4, h5, h6⟩ := ih k' h1 s' h2
      exact ⟨k2, s2, h4, h5, by omega⟩

section
variable {D : Nat → Nat → Int} (hD : ∀ k, k ≤ n → ∀ v, v < n → Top (WL A n k v) (D k v)) (hM : ∀ i j, A i j ≠ -1000000000000000 → -1000000 ≤ A i j ∧ A i j ≤ 1000000) (hn : 0 < n) (hn2 : n ≤ 100)
include hD hM hn hn2
theorem karp_fin {k v : Nat} (hk : k ≤ n) (hv : v < n) {s : Int} (h : WL A n k v s) : D k v ≠ -1000000000000000 ∧ s ≤ D k v := by
  rcases hD k hk v hv with ⟨_, h1⟩ | ⟨h1, h2⟩
  · exact absurd h (h1 s)
  · have := h1.bd hM
    exact ⟨by omega, h2 s h⟩
omit hM hn hn2 in
theorem karp_wl {k v : Nat} (hk : k ≤ n) (hv : v < n) (h : D k v ≠ -1000000000000000) : WL A n k v (D k v) := by
  rcases hD k hk v hv with ⟨h1, _⟩ | ⟨h1, h2⟩
  · exact absurd h1 h
  · exact h1
omit hM hn hn2 in
theorem karp_none (hC : ∀ c t, lo n (c :: t) → ¬ fk A (c :: (t ++ [c]))) {v : Nat} (hv : v < n) : D n v = -1000000000000000 := by
  rcases hD n (Nat.le_refl n) v hv with ⟨h1, _⟩ | ⟨h1, h2⟩
  · exact h1
  · exfalso
    have hN : NoOver A n 1 (-1) := fun c t h1 h2 => absurd h2 (hC c t h1)
    obtain ⟨l, g1, g2, g3, g4⟩ := h1
    have hd : ¬ (v :: l).Nodup := fun hd => by
      have := nodup_len n _ hd g2
      simp only [List.length_cons] at this; omega
    obtain ⟨s1, x, t, r, e⟩ := dup_split _ hd
    rw [e] at g2 g3
    have k1 := (fk_app A s1 x (t ++ x :: r)).1 g3
    have k2 : fk A (x :: (t ++ [x])) ∧ fk A (x :: r) := (fk_app A (x :: t) x r).1 k1.2
    refine hC x t (fun y hy => g2 y ?_) k2.1
    simp only [List.mem_append, List.mem_cons]
    rcases List.mem_cons.1 hy with h | h
    · exact .inr (.inl h)
    · exact .inr (.inr (.inl h))
theorem karp_le (hN : NoOver A n q p) (hq : 0 < q) {v : Nat} (hv : v < n) (h : D n v ≠ -1000000000000000) : ∃ k, k < n ∧ D k v ≠ -1000000000000000 ∧ q * (D n v - D k v) ≤ p * ((n : Int) - (k : Int)) := by
  have h1 := karp_wl hD (Nat.le_refl n) hv h
  obtain ⟨k', s', h2, h3, h4⟩ := cutN hn hN n _ h1
  have h5 := karp_fin hD hM hn hn2 (by omega) hv h3
  refine ⟨k', h2, h5.1, ?_⟩
  have h6 := Int.mul_le_mul_of_nonneg_left h5.2 (Int.le_of_lt hq)
  rw [Int.mul_sub, Int.mul_sub]
  omega

/-- no walk that ends at v does better than this one -/
def Opt (A : Nat → Nat → Int) (n : Nat) (q p : Int) (v : Nat) (l : List Nat) : Prop := lo n (v :: l) ∧ fk A (v :: l) ∧ ∀ k s, WL A n k v s → q * s - p * (k : Int) ≤ q * fw A (v :: l) - p * (l.length : Int)
theorem opt_ex (hN : NoOver A n q p) (hq : 0 < q) {v : Nat} (hv : v < n) : ∃ l, l.length < n ∧ Opt A n q p v l := by
  have key : ∀ j, j + 1 ≤ n → ∃ l : List Nat, l.length < j + 1 ∧ lo n (v :: l) ∧ fk A (v :: l) ∧ ∀ k s, k < j + 1 → WL A n k v s → q * s - p * (k : Int) ≤ q * fw A (v :: l) - p * (l.length : Int) := by
    intro j
    induction j with
    | zero =>
      intro _
      refine ⟨[], Nat.zero_lt_succ _, lo_cons.2 ⟨hv, lo_nil _⟩, trivial, fun k s hk h => ?_⟩
      obtain ⟨l, h1, h2, h3, h4⟩ := h
      have : l = [] := List.eq_nil_of_length_eq_zero (by omega)
      subst this
      have h1' : k = 0 := by simpa using h1.symm
      subst h1'
      rw [← h4]; exact Int.le_refl _
    | succ j ih =>
      intro hj
      obtain ⟨l, h1, h2, h3, h4⟩ := ih (by omega)
      by_cases hb : D (j + 1) v = -1000000000000000
      · refine ⟨l, by omega, h2, h3, fun k s hk h => ?_⟩
        by_cases e : k = j + 1
        · subst e
          exact absurd hb (karp_fin hD hM hn hn2 (by omega) hv h).1
        · exact h4 k s (by omega) h
      · obtain ⟨l2, g1, g2, g3, g4⟩ := karp_wl hD (by omega) hv hb
        have hmax : ∀ s, WL A n (j + 1) v s → q * s ≤ q * fw A (v :: l2) := fun s h => by
          have := (karp_fin hD hM hn hn2 (by omega) hv h).2
          rw [g4]
          exact Int.mul_le_mul_of_nonneg_left this (Int.le_of_lt hq)
        by_cases hc : q * fw A (v :: l) - p * (l.length : Int) ≤ q * fw A (v :: l2) - p * (l2.length : Int)
        · refine ⟨l2, by omega, g2, g3, fun k s hk h => ?_⟩
          by_cases e : k = j + 1
          · subst e
            have := hmax s h
            rw [g1]; omega
          · have := h4 k s (by omega) h
            omega
        · refine ⟨l, by omega, h2, h3, fun k s hk h => ?_⟩
          by_cases e : k = j + 1
          · subst e
            have := hmax s h
            rw [g1] at hc; omega
          · exact h4 k s (by omega) h
  obtain ⟨l, h1, h2, h3, h4⟩ := key (n - 1) (by omega)
  refine ⟨l, by omega, h2, h3, fun k s h => ?_⟩
  obtain ⟨k', s', g1, g2, g3⟩ := cutN hn hN k s h
  have := h4 k' s' (by omega) g2
  omega
/-- a cycle with the mean p / q -/
def Zc (A : Nat → Nat → Int) (n : Nat) (q p : Int) (c : Nat) (t : List Nat) : Prop := lo n (c :: t) ∧ fk A (c :: (t ++ [c])) ∧ q * fw A (c :: (t ++ [c])) = p * ((t.length : Int) + 1)
omit hD hM hn hn2 in
theorem opt_step {c : Nat} {t l : List Nat} (hZ : Zc A n q p c t) (hO : Opt A n q p c l) : ∃ x t2, Zc A n q p x t2 ∧ Opt A n q p x (c :: l) := by
  obtain ⟨z1, z2, z3⟩ := hZ
  obtain ⟨o1, o2, o3⟩ := hO
  rcases snoc_cases t with rfl | ⟨t', x, rfl⟩
  · have hcc : A c c ≠ -1000000000000000 := z2.1
    refine ⟨c, [], ⟨z1, z2, z3⟩, lo_cons.2 ⟨(lo_cons.1 z1).1, o1⟩, ⟨hcc, o2⟩, fun k s h => ?_⟩
    have h1 := o3 k s h
    have e1 : fw A (c :: ([] ++ [c])) = A c c := by show A c c + 0 = A c c; omega
    rw [e1] at z3
    have e2 : fw A (c :: c :: l) = A c c + fw A (c :: l) := rfl
    rw [e2, Int.mul_add]
    simp only [List.length_nil, List.length_cons] at z3 ⊢
    rw [show (((0 : Nat) : Int) + 1) = 1 by rfl, Int.mul_one] at z3
    rw [show ((l.length + 1 : Nat) : Int) = (l.length : Int) + 1 by omega, Int.mul_add, Int.mul_one]
    omega
  · have e0 : c :: ((t' ++ [x]) ++ [c]) = (c :: t') ++ x :: [c] := by simp
    rw [e0] at z2 z3
    have k1 := (fk_app A (c :: t') x [c]).1 z2
    have w1 := fw_app A (c :: t') x [c]
    have hxc : A x c ≠ -1000000000000000 := k1.2.1
    have e1 : fw A [x, c] = A x c := by show A x c + 0 = A x c; omega
    rw [e1] at w1
    rw [w1, Int.mul_add] at z3
    have hx : x < n := z1 x (by simp)
    have hlo2 : lo n (x :: c :: t') := fun y hy => z1 y (by
      simp only [List.mem_cons, List.mem_append] at hy ⊢
      rcases hy with h | h | h
      · exact .inr (.inr (.inl h))
      · exact .inl h
      · exact .inr (.inl h))
    have hl2 : ((t' ++ [x]).length : Int) = (t'.length : Int) + 1 := by simp
    rw [hl2] at z3
    refine ⟨x, c :: t', ⟨hlo2, ⟨hxc, k1.1⟩, ?_⟩, lo_cons.2 ⟨hx, o1⟩, ⟨hxc, o2⟩, fun k s h => ?_⟩
    · have e2 : fw A (x :: (c :: t' ++ [x])) = A x c + fw A ((c :: t') ++ [x]) := rfl
      rw [e2, Int.mul_add]
      simp only [List.length_cons]
      rw [show ((t'.length + 1 : Nat) : Int) = (t'.length : Int) + 1 by omega]
      omega
    · obtain ⟨l', g1, g2, g3, g4⟩ := h
      have hw : WL A n (t'.length + 1 + k) c (fw A ((c :: t') ++ [x]) + s) := by
        refine ⟨t' ++ x :: l', by simp; omega, fun y hy => ?_, (fk_app A (c :: t') x l').2 ⟨k1.1, g3⟩, ?_⟩
        · simp only [List.mem_cons, List.mem_append] at hy
          rcases hy with h | h | h | h
          · exact z1 y (by simp [h])
          · exact z1 y (by simp [h])
          · exact z1 y (by simp [h])
          · exact g2 y (by simp [h])
        · have := fw_app A (c :: t') x l'
          rw [g4] at this
          exact this
      have h1 := o3 _ _ hw
      have e2 : fw A (x :: c :: l) = A x c + fw A (c :: l) := rfl
      rw [e2, Int.mul_add]
      simp only [List.length_cons]
      rw [Int.mul_add] at h1
      rw [show ((t'.length + 1 + k : Nat) : Int) = ((t'.length : Int) + 1) + (k : Int) by omega, Int.mul_add p] at h1
      rw [show ((l.length + 1 : Nat) : Int) = (l.length : Int) + 1 by omega, Int.mul_add p, Int.mul_one]
      rw [Int.mul_add p, Int.mul_one] at z3
      omega
omit hD hM hn hn2 in
theorem opt_iter : ∀ (j : Nat) {c : Nat} {t l : List Nat}, Zc A n q p c t → Opt A n q p c l → ∃ v l', l'.length = l.length + j ∧ Opt A n q p v l'
  | 0, c, t, l, hZ, hO => ⟨c, l, rfl, hO⟩
  | j + 1, c, t, l, hZ, hO => by
    obtain ⟨x, t2, h1, h2⟩ := opt_step hZ hO
    obtain ⟨v, l', h3, h4⟩ := opt_iter j h1 h2
    exact ⟨v, l', by rw [h3]; simp; omega, h4⟩
theorem karp_ge (hN : NoOver A n q p) (hq : 0 < q) {c : Nat} {t : List Nat} (hZ : Zc A n q p c t) :
    ∃ v, v < n ∧ D n v ≠ -1000000000000000 ∧ ∀ k, k < n → D k v ≠ -1000000000000000 → p * ((n : Int) - (k : Int)) ≤ q * (D n v - D k v) := by
  obtain ⟨l, h1, h2⟩ := opt_ex hD hM hn hn2 hN hq (lo_cons.1 hZ.1).1
  obtain ⟨v, l', h3, h4⟩ := opt_iter (n - l.length) hZ h2
  obtain ⟨o1, o2, o3⟩ := h4
  have hv := (lo_cons.1 o1).1
  have hl : l'.length = n := by omega
  have hw : WL A n n v (fw A (v :: l')) := ⟨l', hl, o1, o2, rfl⟩
  have h5 := karp_fin hD hM hn hn2 (Nat.le_refl n) hv hw
  refine ⟨v, hv, h5.1, fun k hk hb => ?_⟩
  have h6 := o3 k _ (karp_wl hD (by omega) hv hb)
  have h7 := Int.mul_le_mul_of_nonneg_left h5.2 (Int.le_of_lt hq)
  rw [hl] at h6
  rw [Int.mul_sub, Int.mul_sub]
  omega
end

/-- a closed walk may be made simple, beginning with its least node, and its mean stays above a number -/
theorem rotate {c : Nat} {t : List Nat} (hd : (c :: t).Nodup) (h1 : lo n (c :: t)) (h2 : fk A (c :: (t ++ [c]))) :
    ∃ z m, (z :: m).Nodup ∧ lo n (z :: m) ∧ (∀ y ∈ m, z < y) ∧ fk A (z :: (m ++ [z])) ∧ fw A (z :: (m ++ [z])) = fw A (c :: (t ++ [c])) ∧ m.length = t.length := by
  have hmin : ∀ (l : List Nat) (a : Nat), ∃ z ∈ a :: l, ∀ y ∈ a :: l, z ≤ y := by
    intro l
    induction l with
    | nil => intro a; exact ⟨a, by simp, fun y hy => by simp at hy; omega⟩
    | cons b l ih =>
      intro a
      obtain ⟨z, hz, hy⟩ := ih b
      by_cases e : a ≤ z
      · refine ⟨a, by simp, fun y h => ?_⟩
        rcases List.mem_cons.1 h with h | h
        · omega
        · have := hy y h; omega
      · refine ⟨z, List.mem_cons_of_mem _ hz, fun y h => ?_⟩
        rcases List.mem_cons.1 h with h | h
        · omega
        · exact hy y h
  obtain ⟨z, hz, hle⟩ := hmin t c
  obtain ⟨s, r, e⟩ := List.append_of_mem hz
  have hd2 : (z :: (r ++ s)).Nodup := by
    rw [e] at hd
    exact (List.perm_append_comm.nodup_iff).1 hd
  have hmem : ∀ y, y ∈ r ++ s → y ∈ c :: t := fun y hy => by
    rw [e]
    simp only [List.mem_append, List.mem_cons] at hy ⊢
    rcases hy with h | h
    · exact .inr (.inr h)
    · exact .inl h
  have hlt : ∀ y ∈ r ++ s, z < y := fun y hy => by
    have h3 := hle y (hmem y hy)
    have h4 : z ≠ y := fun e => (List.nodup_cons.1 hd2).1 (by rw [e]; exact hy)
    omega
  have hlo : lo n (z :: (r ++ s)) := fun y hy => h1 y (by
    rcases List.mem_cons.1 hy with h | h
    · rw [h]; exact hz
    · exact hmem y h)
  have hlen : (r ++ s).length = t.length := by
    have := congrArg List.length e
    simp at this ⊢; omega
  refine ⟨z, r ++ s, hd2, hlo, hlt, ?_, ?_, hlen⟩
  · cases s with
    | nil =>
      simp only [List.nil_append, List.cons.injEq] at e
      rw [List.append_nil, ← e.1, ← e.2]; exact h2
    | cons y s =>
      simp only [List.cons_append, List.cons.injEq] at e
      obtain ⟨e1, e2⟩ := e
      subst e1; subst e2
      have e3 : c :: ((s ++ z :: r) ++ [c]) = (c :: s) ++ z :: (r ++ [c]) := by simp
      rw [e3] at h2
      have k1 := (fk_app A (c :: s) z (r ++ [c])).1 h2
      have e4 : z :: ((r ++ c :: s) ++ [z]) = (z :: r) ++ c :: (s ++ [z]) := by simp
      rw [e4]
      exact (fk_app A (z :: r) c (s ++ [z])).2 ⟨k1.2, k1.1⟩
  · cases s with
    | nil =>
      simp only [List.nil_append, List.cons.injEq] at e
      rw [List.append_nil, ← e.1, ← e.2]
    | cons y s =>
      simp only [List.cons_append, List.cons.injEq] at e
      obtain ⟨e1, e2⟩ := e
      subst e1; subst e2
      have e3 : c :: ((s ++ z :: r) ++ [c]) = (c :: s) ++ z :: (r ++ [c]) := by simp
      have e4 : z :: ((r ++ c :: s) ++ [z]) = (z :: r) ++ c :: (s ++ [z]) := by simp
      rw [e3, e4]
      have w1 := fw_app A (c :: s) z (r ++ [c])
      have w2 := fw_app A (z :: r) c (s ++ [z])
      have w3 : fw A ((z :: r) ++ [c]) = fw A (z :: (r ++ [c])) := rfl
      have w4 : fw A ((c :: s) ++ [z]) = fw A (c :: (s ++ [z])) := rfl
      omega
theorem simple_cycle : ∀ (L : Nat) (c : Nat) (t : List Nat), t.length ≤ L → lo n (c :: t) → fk A (c :: (t ++ [c])) → p * ((t.length : Int) + 1) < q * fw A (c :: (t ++ [c])) →
    ∃ z m, (z :: m).Nodup ∧ lo n (z :: m) ∧ (∀ y ∈ m, z < y) ∧ fk A (z :: (m ++ [z])) ∧ p * ((m.length : Int) + 1) < q * fw A (z :: (m ++ [z])) := by
  intro L
  induction L with
  | zero =>
    intro c t hl h1 h2 h3
    have : t = [] := List.eq_nil_of_length_eq_zero (by omega)
    subst this
    exact ⟨c, [], by simp, h1, fun y hy => by simp at hy, h2, h3⟩
  | succ L ih =>
    intro c t hl h1 h2 h3
    by_cases hd : (c :: t).Nodup
    · obtain ⟨z, m, g1, g2, g3, g4, g5, g6⟩ := rotate hd h1 h2
      exact ⟨z, m, g1, g2, g3, g4, by rw [g5, g6]; exact h3⟩
    · obtain ⟨s1, x, t1, r, e⟩ := dup_split _ hd
      have e0 : c :: (t ++ [c]) = s1 ++ x :: (t1 ++ x :: (r ++ [c])) := by
        have := congrArg (· ++ [c]) e
        simpa using this
      rw [e0] at h2 h3
      have c1 := fw_app A s1 x (t1 ++ x :: (r ++ [c]))
      have c2 : fw A (x :: (t1 ++ x :: (r ++ [c]))) = fw A (x :: (t1 ++ [x])) + fw A (x :: (r ++ [c])) := fw_app A (x :: t1) x (r ++ [c])
      have c3 := fw_app A s1 x (r ++ [c])
      have k1 := (fk_app A s1 x (t1 ++ x :: (r ++ [c]))).1 h2
      have k2 : fk A (x :: (t1 ++ [x])) ∧ fk A (x :: (r ++ [c])) := (fk_app A (x :: t1) x (r ++ [c])).1 k1.2
      have k3 := (fk_app A s1 x (r ++ [c])).2 ⟨k1.1, k2.2⟩
      have hlen1 : t.length + 1 = s1.length + (t1.length + (r.length + 1) + 1) := by
        have := congrArg List.length e
        simpa using this
      have hmem : ∀ y, y ∈ s1 ∨ y = x ∨ y ∈ t1 ∨ y ∈ r → y < n := fun y hy => h1 y (by
        rw [e]
        simp only [List.mem_append, List.mem_cons]
        rcases hy with h | h | h | h
        · exact .inl h
        · exact .inr (.inl h)
        · exact .inr (.inr (.inl h))
        · exact .inr (.inr (.inr (.inr h))))
      by_cases hin : p * ((t1.length : Int) + 1) < q * fw A (x :: (t1 ++ [x]))
      · exact ih x t1 (by omega) (fun y hy => hmem y (by
          rcases List.mem_cons.1 hy with h | h
          · exact .inr (.inl h)
          · exact .inr (.inr (.inl h)))) k2.1 hin
      · obtain ⟨t2, ht2, hlt2⟩ : ∃ t2, s1 ++ x :: r = c :: t2 ∧ s1 ++ x :: (r ++ [c]) = c :: (t2 ++ [c]) := by
          cases s1 with
          | nil =>
            simp only [List.nil_append, List.cons.injEq] at e
            exact ⟨r, by rw [e.1]; rfl, by rw [e.1]; rfl⟩
          | cons y s1 =>
            simp only [List.cons_append, List.cons.injEq] at e
            exact ⟨s1 ++ x :: r, by rw [e.1]; rfl, by rw [e.1]; simp⟩
        have hlen2 : s1.length + (r.length + 1) = t2.length + 1 := by
          have := congrArg List.length ht2
          simpa using this
        refine ih c t2 (by omega) (fun y hy => hmem y ?_) (by rw [← hlt2]; exact k3) ?_
        · rw [← ht2] at hy
          rcases List.mem_append.1 hy with h | h
          · exact .inl h
          · rcases List.mem_cons.1 h with h | h
            · exact .inr (.inl h)
            · exact .inr (.inr (.inr h))
        · rw [← hlt2, c3]
          rw [c1, c2, show (t.length : Int) + 1 = ((t2.length : Int) + 1) + ((t1.length : Int) + 1) by omega, Int.mul_add p, Int.mul_add q, Int.mul_add q] at h3
          rw [Int.mul_add q]
          omega
end

/-- ratios in lowest terms -/
theorem ratOf_low {a b : Int} (hb : 0 < b) : (ratOf a b).1 * b = a * (ratOf a b).2 ∧ 0 < (ratOf a b).2 ∧ gcdI (ratOf a b).1 (ratOf a b).2 = 1 := by
  have hs : sgnR a b = (a, b) := by unfold sgnR; rw [if_neg (by omega)]
  unfold ratOf
  rw [hs]
  simp only
  have hg := gcdI_le (a := a) hb
  have hga : gcdI a b ∣ a := by unfold gcdI; exact Int.gcd_dvd_left ..
  have hgb : gcdI a b ∣ b := by unfold gcdI; exact Int.gcd_dvd_right ..
  have ea : a.tdiv (gcdI a b) = a / gcdI a b := Int.tdiv_eq_ediv_of_dvd hga
  have eb : b.tdiv (gcdI a b) = b / gcdI a b := Int.tdiv_eq_ediv_of_dvd hgb
  rw [ea, eb]
  obtain ⟨x, hx⟩ := hga
  obtain ⟨y, hy⟩ := hgb
  have e1 : a / gcdI a b = x := by
    have := Int.mul_ediv_cancel_left x (show gcdI a b ≠ 0 by omega)
    rw [← hx] at this; exact this
  have e2 : b / gcdI a b = y := by
    have := Int.mul_ediv_cancel_left y (show gcdI a b ≠ 0 by omega)
    rw [← hy] at this; exact this
  rw [e1, e2]
  have hy0 : 0 < y := by
    rcases Int.lt_trichotomy y 0 with h | h | h
    · have := Int.mul_neg_of_pos_of_neg hg.1 h; omega
    · rw [h, Int.mul_zero] at hy; omega
    · exact h
  refine ⟨?_, hy0, ?_⟩
  · calc x * b = x * (gcdI a b * y) := by rw [← hy]
      _ = (gcdI a b * x) * y := by rw [← Int.mul_assoc, Int.mul_comm x]
      _ = a * y := by rw [← hx]
  · have hgg : gcdI (gcdI a b * x) (gcdI a b * y) = gcdI a b * gcdI x y := by
      unfold gcdI
      rw [Int.gcd_mul_left]
      simp
    rw [← hx, ← hy] at hgg
    have h3 : gcdI a b * gcdI x y = gcdI a b * 1 := by rw [Int.mul_one]; exact hgg.symm
    exact Int.eq_of_mul_eq_mul_left (by omega) h3
theorem dvd_cop {a b c : Int} (h : a ∣ b * c) (hg : Int.gcd a b = 1) : a ∣ c := by
  have h1 : a.natAbs ∣ b.natAbs * c.natAbs := by rw [← Int.natAbs_mul]; exact Int.natAbs_dvd_natAbs.2 h
  have h2 : Nat.Coprime a.natAbs b.natAbs := hg
  exact Int.natAbs_dvd_natAbs.1 (h2.dvd_of_dvd_mul_left h1)
theorem low_eq {a b : Int × Int} (ha : 0 < a.2) (hb : 0 < b.2) (ga : gcdI a.1 a.2 = 1) (gb : gcdI b.1 b.2 = 1) (e : a.1 * b.2 = b.1 * a.2) : a = b := by
  have h1 : a.2 ∣ b.2 := by
    have hd : a.2 ∣ a.1 * b.2 := ⟨b.1, by rw [e, Int.mul_comm]⟩
    have hg : Int.gcd a.2 a.1 = 1 := by
      unfold gcdI at ga; rw [Int.gcd_comm]; omega
    exact dvd_cop hd hg
  have h2 : b.2 ∣ a.2 := by
    have hd : b.2 ∣ b.1 * a.2 := ⟨a.1, by rw [← e, Int.mul_comm]⟩
    have hg : Int.gcd b.2 b.1 = 1 := by
      unfold gcdI at gb; rw [Int.gcd_comm]; omega
    exact dvd_cop hd hg
  have h3 := Int.le_of_dvd hb h1
  have h4 := Int.le_of_dvd ha h2
  have h5 : a.2 = b.2 := by omega
  rw [h5] at e
  have h6 := Int.eq_of_mul_eq_mul_right (by omega) e
  exact Prod.ext h6 h5
/-- fractions with positive denominators -/
def leF (a b : Int × Int) : Prop := a.1 * b.2 ≤ b.1 * a.2
theorem leF.trans {a b c : Int × Int} (ha : 0 < a.2) (hb : 0 < b.2) (hc : 0 < c.2) (h : leF a b) (g : leF b c) : leF a c := by
  unfold leF at *
  have h1 := Int.mul_le_mul_of_nonneg_right h (Int.le_of_lt hc)
  have h2 := Int.mul_le_mul_of_nonneg_right g (Int.le_of_lt ha)
  refine Int.le_of_mul_le_mul_left (a := b.2) ?_ hb
  have e1 : b.2 * (a.1 * c.2) = a.1 * b.2 * c.2 := by rw [← Int.mul_assoc, Int.mul_comm b.2 a.1]
  have e2 : b.1 * a.2 * c.2 = b.1 * c.2 * a.2 := by rw [Int.mul_assoc, Int.mul_comm a.2, ← Int.mul_assoc]
  have e3 : b.2 * (c.1 * a.2) = c.1 * b.2 * a.2 := by rw [← Int.mul_assoc, Int.mul_comm b.2 c.1]
  omega
theorem cmpR_lt {a b : Int × Int} : cmpR a b < 0 ↔ ¬ leF b a := by unfold cmpR cmpI leF; split <;> (try split) <;> omega
theorem cmpR_gt {a b : Int × Int} : 0 < cmpR a b ↔ ¬ leF a b := by unfold cmpR cmpI leF; split <;> (try split) <;> omega
theorem leF.total (a b : Int × Int) : leF a b ∨ leF b a := by unfold leF; omega
end Go.Proofs.Ytokhkpbebimohaa

/- Plain law: reaching. The program's closure and the reference's rounds find the same nodes. No program in sight. -/
namespace Go.Proofs.Ytokhkpbebimohaa
set_option linter.unusedVariables false

/-- an arc from i to j, or i = j -/
def eB (a : List (List Int)) (i j : Nat) : Bool := i == j || ent a j i != -1000000000000000
/-- the closure over the nodes below k -/
def wB (a : List (List Int)) : Nat → Nat → Nat → Bool
  | 0, i, j => eB a i j
  | k + 1, i, j => wB a k i j || (wB a k i k && wB a k k j)
/-- arcs without their weights -/
def zA (a : List (List Int)) (i j : Nat) : Int := if ent a i j = -1000000000000000 then -1000000000000000 else 0
theorem zA_ne {a : List (List Int)} {i j : Nat} : zA a i j ≠ -1000000000000000 ↔ ent a i j ≠ -1000000000000000 := by
  unfold zA; split <;> simp_all
theorem zA_bd {a : List (List Int)} (i j : Nat) (h : zA a i j ≠ -1000000000000000) : -(0 : Int) ≤ zA a i j ∧ zA a i j ≤ 0 := by
  have := zA_ne.1 h; unfold zA; rw [if_neg this]; omega
theorem z_nopos (a : List (List Int)) (n : Nat) : NoPos (zA a) n := fun v m hv hm hw => by
  have := wt_bd zA_bd hw; simp only [Int.zero_mul] at this; omega
/-- f reaches t -/
def RP (a : List (List Int)) (n f t : Nat) : Prop := f = t ∨ ∃ m, lo n m ∧ wk (zA a) t m f
theorem RP.ext {a : List (List Int)} {n f k i : Nat} (h : RP a n f k) (hk : k < n) (ha : ent a i k ≠ -1000000000000000) : RP a n f i := by
  rcases h with rfl | ⟨m, h1, h2⟩
  · exact .inr ⟨[], lo_nil _, zA_ne.2 ha⟩
  · exact .inr ⟨k :: m, lo_cons.2 ⟨hk, h1⟩, zA_ne.2 ha, h2⟩
theorem RP.trans {a : List (List Int)} {n f k t : Nat} (h : RP a n f k) (g : RP a n k t) (hk : k < n) : RP a n f t := by
  rcases h with rfl | ⟨m, h1, h2⟩
  · exact g
  · rcases g with rfl | ⟨m', g1, g2⟩
    · exact .inr ⟨m, h1, h2⟩
    · exact .inr ⟨m' ++ k :: m, by rw [lo_app, lo_cons]; exact ⟨g1, hk, h1⟩, by rw [wk_app]; exact ⟨g2, h2⟩⟩
theorem RP.short {a : List (List Int)} {n f t : Nat} (h : RP a n f t) (ht : t < n) : f = t ∨ ∃ m, m.length + 1 ≤ n ∧ lo n m ∧ wk (zA a) t m f := by
  rcases h with h | ⟨m, h1, h2⟩
  · exact .inl h
  · obtain ⟨m', a1, a2, _, a4, _⟩ := simple (z_nopos a n) m t ht h1 h2
    exact .inr ⟨m', simple_len a1 ht a2, a2, a4⟩

theorem wB_sound {a : List (List Int)} {n k : Nat} (hk : k ≤ n) {i j : Nat} (h : wB a k i j = true) : RP a n i j := by
  induction k generalizing i j with
  | zero =>
    unfold wB eB at h
    simp only [Bool.or_eq_true, beq_iff_eq, bne_iff_ne, ne_eq] at h
    rcases h with h | h
    · exact .inl h
    · exact .inr ⟨[], lo_nil _, zA_ne.2 h⟩
  | succ k ih =>
    unfold wB at h
    simp only [Bool.or_eq_true, Bool.and_eq_true] at h
    rcases h with h | ⟨h1, h2⟩
    · exact ih (by omega) h
    · exact (ih (by omega) h1).trans (ih (by omega) h2) (by omega)
theorem wB_mono {a : List (List Int)} {k : Nat} {i j : Nat} (h : eB a i j = true) : wB a k i j = true := by
  induction k with
  | zero => exact h
  | succ k ih => unfold wB; rw [ih]; rfl
theorem wB_closed {a : List (List Int)} {k m : Nat} (hm : m < k) {i j : Nat} (h1 : wB a k i m = true) (h2 : wB a k m j = true) : wB a k i j = true := by
  induction k generalizing i j m with
  | zero => exact absurd hm (Nat.not_lt_zero _)
  | succ k ih =>
    unfold wB at h1 h2 ⊢
    simp only [Bool.or_eq_true, Bool.and_eq_true] at h1 h2 ⊢
    by_cases e : m = k
    · subst e
      have a1 : wB a m i m = true := by rcases h1 with h | h; exact h; exact h.1
      have a2 : wB a m m j = true := by rcases h2 with h | h; exact h; exact h.2
      exact .inr ⟨a1, a2⟩
    · have hm' : m < k := by omega
      rcases h1 with h1 | ⟨h1, h1'⟩ <;> rcases h2 with h2 | ⟨h2, h2'⟩
      · exact .inl (ih hm' h1 h2)
      · exact .inr ⟨ih hm' h1 h2, h2'⟩
      · exact .inr ⟨h1, ih hm' h1' h2⟩
      · exact .inr ⟨h1, h2'⟩
theorem wB_iff {a : List (List Int)} {n i j : Nat} (hi : i < n) (hj : j < n) : wB a n i j = true ↔ RP a n i j := by
  refine ⟨wB_sound (Nat.le_refl _), fun h => ?_⟩
  rcases h with rfl | ⟨m, h1, h2⟩
  · exact wB_mono (by unfold eB; simp)
  · induction m generalizing j with
    | nil => exact wB_mono (by unfold eB; have := zA_ne.1 h2; simp [this])
    | cons k m ih =>
      have hk := lo_cons.1 h1
      exact wB_closed hk.1 (ih hk.1 hk.2 h2.2) (wB_mono (by unfold eB; have := zA_ne.1 h2.1; simp [this]))
/-- in stage k the entries of row k and of column k stay -/
theorem wB_col (a : List (List Int)) (k i : Nat) : wB a (k + 1) i k = wB a k i k := by
  simp only [wB]; cases wB a k i k <;> simp
theorem wB_row (a : List (List Int)) (k j : Nat) : wB a (k + 1) k j = wB a k k j := by
  simp only [wB]; cases wB a k k j <;> simp
theorem wB_refl (a : List (List Int)) (k i : Nat) : wB a k i i = true := wB_mono (by unfold eB; simp)

/-- the reference's row after r passes: sound, and it has all that r arcs reach -/
def RoundOk (a : List (List Int)) (n v r : Nat) (row : Nat → Bool) : Prop :=
  (∀ i, i < n → row i = true → RP a n v i) ∧ row v = true ∧ ∀ i m, i < n → lo n m → wk (zA a) i m v → m.length + 1 ≤ r → row i = true
theorem RoundOk.done {a : List (List Int)} {n v : Nat} {row : Nat → Bool} (h : RoundOk a n v n row) (hv : v < n) {i : Nat} (hi : i < n) : row i = wB a n v i := by
  rw [Bool.eq_iff_iff, wB_iff hv hi]
  refine ⟨h.1 i hi, fun g => ?_⟩
  rcases g.short hi with rfl | ⟨m, g1, g2, g3⟩
  · exact h.2.1
  · exact h.2.2 i m hi g2 g3 g1

/-- the nodes that a node reaches and is reached from; the components -/
def ownC (R : Nat → Nat → Bool) (i : Nat) : Nat → List Int
  | 0 => []
  | j + 1 => if R i j && R j i then ownC R i j ++ [(j : Int)] else ownC R i j
def compsM (R : Nat → Nat → Bool) (n : Nat) : Nat → List (List Int)
  | 0 => []
  | i + 1 => if nth (ownC R i n) 0 = (i : Int) then compsM R n i ++ [ownC R i n] else compsM R n i
theorem ownC_len (R : Nat → Nat → Bool) (i j : Nat) : (ownC R i j).length ≤ j := by
  induction j with
  | zero => simp [ownC]
  | succ j ih =>
    simp only [ownC]; split
    · simp; omega
    · omega
theorem ownC_pos {R : Nat → Nat → Bool} {i : Nat} (h : R i i = true) {j : Nat} (hj : i < j) : 0 < (ownC R i j).length := by
  induction j with
  | zero => omega
  | succ j ih =>
    simp only [ownC]
    by_cases e : j = i
    · subst e; rw [h]; simp
    · have := ih (by omega)
      split
      · simp
      · exact this
theorem compsM_len (R : Nat → Nat → Bool) (n i : Nat) : (compsM R n i).length ≤ i := by
  induction i with
  | zero => simp [compsM]
  | succ i ih =>
    simp only [compsM]; split
    · simp; omega
    · omega
theorem compsM_tot (R : Nat → Nat → Bool) (n i : Nat) : tot (compsM R n i) ≤ i * n := by
  induction i with
  | zero => simp [compsM, tot]
  | succ i ih =>
    simp only [compsM]
    have := ownC_len R i n
    rw [Nat.succ_mul]
    split
    · rw [tot_append]; simp only [tot]; omega
    · omega
def compV (x : List (List Int)) : List (List Int) × Int := if isSq x then (compsM (wB x x.length) x.length x.length, 0) else ([], 1)
theorem compV_tot (x : List (List Int)) : tot (compV x).1 ≤ 1000000 := by
  unfold compV; split
  · rename_i h
    have := isSq_rect h
    have h1 := compsM_tot (wB x x.length) x.length x.length
    have h2 := Nat.mul_le_mul this.2.2 this.2.2
    show tot (compsM (wB x x.length) x.length x.length) ≤ 1000000
    omega
  · simp [tot]
def irrV (x : List (List Int)) : Bool × Int := if isSq x then (decide ((compsM (wB x x.length) x.length x.length).length = 1), 0) else (false, 1)
def canV (x : List (List Int)) (f t : Int) : Bool × Int := if isSq x then (if inR f 0 ((x.length : Int) - 1) && inR t 0 ((x.length : Int) - 1) then (wB x x.length f.toNat t.toNat, 0) else (false, 2)) else (false, 1)
end Go.Proofs.Ytokhkpbebimohaa

/- Plain law: the reference's rounds of reaching, pair by pair. No program in sight. -/
namespace Go.Proofs.Ytokhkpbebimohaa
set_option linter.unusedVariables false

/-- k is v, or at most r arcs lead from v to it -/
def hit (a : List (List Int)) (n v r k : Nat) : Prop := k = v ∨ ∃ m, m.length + 1 ≤ r ∧ lo n m ∧ wk (zA a) k m v
/-- a row within round r + 1, the pairs of D done -/
structure RIn (a : List (List Int)) (n v r : Nat) (D : Nat → Nat → Prop) (f : Nat → Bool) : Prop where
  sound : ∀ i, i < n → f i = true → RP a n v i
  has : ∀ k, k < n → hit a n v r k → f k = true
  part : ∀ i k, i < n → k < n → D i k → hit a n v r k → ent a i k ≠ -1000000000000000 → f i = true
theorem RIn.start {a : List (List Int)} {n v : Nat} {f : Nat → Bool} (h : ∀ i, i < n → f i = decide (i = v)) : RIn a n v 0 (fun _ _ => False) f := by
  refine ⟨fun i hi e => ?_, fun k hk e => ?_, fun i k _ _ hD => hD.elim⟩
  · rw [h i hi, decide_eq_true_iff] at e; exact .inl e.symm
  · rcases e with e | ⟨m, e, _⟩
    · rw [h k hk, e]; simp
    · omega
theorem RIn.congr {a : List (List Int)} {n v r : Nat} {D D' : Nat → Nat → Prop} {f : Nat → Bool} (h : RIn a n v r D f) (hD : ∀ i k, i < n → k < n → D' i k → D i k) : RIn a n v r D' f :=
  ⟨h.sound, h.has, fun i k hi hk e => h.part i k hi hk (hD i k hi hk e)⟩
theorem RIn.no {a : List (List Int)} {n v r : Nat} {D D' : Nat → Nat → Prop} {f : Nat → Bool} (h : RIn a n v r D f) {i k : Nat} (hno : ¬ (f k = true ∧ ent a i k ≠ -1000000000000000))
    (hD : ∀ i' k', i' < n → k' < n → D' i' k' → D i' k' ∨ (i' = i ∧ k' = k)) : RIn a n v r D' f := by
  refine ⟨h.sound, h.has, fun i' k' hi hk e hh ha => ?_⟩
  rcases hD i' k' hi hk e with e | ⟨rfl, rfl⟩
  · exact h.part i' k' hi hk e hh ha
  · exact absurd ⟨h.has k' hk hh, ha⟩ hno
theorem RIn.yes {a : List (List Int)} {n v r : Nat} {D D' : Nat → Nat → Prop} {f f' : Nat → Bool} (h : RIn a n v r D f) {i k : Nat} (hk : k < n) (h1 : f k = true) (h2 : ent a i k ≠ -1000000000000000)
    (hf : ∀ j, f' j = if j = i then true else f j) (hD : ∀ i' k', i' < n → k' < n → D' i' k' → D i' k' ∨ (i' = i ∧ k' = k)) : RIn a n v r D' f' := by
  have hup : ∀ j, f j = true → f' j = true := fun j e => by rw [hf]; split; rfl; exact e
  refine ⟨fun j hj e => ?_, fun j hj e => hup j (h.has j hj e), fun i' k' hi hk' e hh ha => ?_⟩
  · rw [hf] at e
    split at e
    · rename_i ej; subst ej; exact (h.sound k hk h1).ext hk h2
    · exact h.sound j hj e
  · rcases hD i' k' hi hk' e with e | ⟨rfl, rfl⟩
    · exact hup _ (h.part i' k' hi hk' e hh ha)
    · rw [hf, if_pos rfl]
theorem RIn.next {a : List (List Int)} {n v r : Nat} {D : Nat → Nat → Prop} {f : Nat → Bool} (h : RIn a n v r D f) (hD : ∀ i k, i < n → k < n → D i k) (hv : v < n) : RIn a n v (r + 1) (fun _ _ => False) f := by
  refine ⟨h.sound, fun i hi e => ?_, fun i k _ _ hD => hD.elim⟩
  rcases e with e | ⟨m, g1, g2, g3⟩
  · exact h.has i hi (.inl e)
  · cases m with
    | nil => exact h.part i v hi hv (hD i v hi hv) (.inl rfl) (zA_ne.1 g3)
    | cons k m =>
      have hk := lo_cons.1 g2
      simp only [List.length_cons] at g1
      exact h.part i k hi hk.1 (hD i k hi hk.1) (.inr ⟨m, by omega, hk.2, g3.2⟩) (zA_ne.1 g3.1)
theorem RIn.done {a : List (List Int)} {n v : Nat} {D : Nat → Nat → Prop} {f : Nat → Bool} (h : RIn a n v n D f) (hv : v < n) {i : Nat} (hi : i < n) : f i = wB a n v i := by
  rw [Bool.eq_iff_iff, wB_iff hv hi]
  refine ⟨h.sound i hi, fun g => ?_⟩
  rcases g.short hi with rfl | ⟨m, g1, g2, g3⟩
  · exact h.has _ hi (.inl rfl)
  · exact h.has i hi (.inr ⟨m, g1, g2, g3⟩)
end Go.Proofs.Ytokhkpbebimohaa
