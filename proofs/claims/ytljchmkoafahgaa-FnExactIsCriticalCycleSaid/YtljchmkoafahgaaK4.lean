/- Plain law: Karp's theorem on greatest means of cycles, and cycles made simple. A list of nodes stands for a walk, each node entered from the next. No program in sight. -/
import Derived.Test.YtljchmkoafahgaaK3
namespace Go.Proofs.Ytljchmkoafahgaa
set_option linter.unusedVariables false

/-- the weight of a list of nodes, each entered from the next; no arc is missing -/
def fw (A : Nat → Nat → Int) : List Nat → Int
  | [] => 0
  | [_] => 0
  | x :: y :: l => A x y + fw A (y :: l)
def fk (A : Nat → Nat → Int) : List Nat → Prop
  | [] => True
  | [_] => True
  | x :: y :: l => A x y ≠ -1000000000000000 ∧ fk A (y :: l)
theorem fw_app (A : Nat → Nat → Int) : ∀ (s : List Nat) (x : Nat) (t : List Nat), fw A (s ++ x :: t) = fw A (s ++ [x]) + fw A (x :: t)
  | [], x, t => by show fw A (x :: t) = 0 + fw A (x :: t); omega
  | [y], x, t => by show A y x + fw A (x :: t) = (A y x + 0) + fw A (x :: t); omega
  | y :: z :: s, x, t => by
    have ih := fw_app A (z :: s) x t
    simp only [List.cons_append] at ih ⊢
    show A y z + fw A (z :: (s ++ x :: t)) = (A y z + fw A (z :: (s ++ [x]))) + fw A (x :: t)
    omega
theorem fk_app (A : Nat → Nat → Int) : ∀ (s : List Nat) (x : Nat) (t : List Nat), fk A (s ++ x :: t) ↔ fk A (s ++ [x]) ∧ fk A (x :: t)
  | [], x, t => ⟨fun h => ⟨trivial, h⟩, fun h => h.2⟩
  | [y], x, t => ⟨fun h => ⟨⟨h.1, trivial⟩, h.2⟩, fun h => ⟨h.1.1, h.2⟩⟩
  | y :: z :: s, x, t => by
    have ih := fk_app A (z :: s) x t
    simp only [List.cons_append] at ih ⊢
    exact ⟨fun h => ⟨⟨h.1, (ih.1 h.2).1⟩, (ih.1 h.2).2⟩, fun h => ⟨h.1.1, ih.2 ⟨h.1.2, h.2⟩⟩⟩
theorem dup_split : ∀ (l : List Nat), ¬ l.Nodup → ∃ s x t r, l = s ++ x :: (t ++ x :: r)
  | [], h => absurd List.nodup_nil h
  | y :: l, h => by
    by_cases hy : y ∈ l
    · obtain ⟨t, r, e⟩ := List.append_of_mem hy
      exact ⟨[], y, t, r, by rw [e]; rfl⟩
    · have h2 : ¬ l.Nodup := fun h3 => h (List.nodup_cons.2 ⟨hy, h3⟩)
      obtain ⟨s, x, t, r, e⟩ := dup_split l h2
      exact ⟨y :: s, x, t, r, by rw [e]; rfl⟩
theorem snoc_cases (t : List Nat) : t = [] ∨ ∃ t' x, t = t' ++ [x] := by
  induction t with
  | nil => exact .inl rfl
  | cons a t ih =>
    rcases ih with rfl | ⟨t', x, rfl⟩
    · exact .inr ⟨[], a, rfl⟩
    · exact .inr ⟨a :: t', x, rfl⟩

section
variable {A : Nat → Nat → Int} {n : Nat} {q p : Int}
theorem fwl_bd (hM : ∀ i j, A i j ≠ -1000000000000000 → -1000000 ≤ A i j ∧ A i j ≤ 1000000) : ∀ (l : List Nat) (v : Nat), fk A (v :: l) → -1000000 * (l.length : Int) ≤ fw A (v :: l) ∧ fw A (v :: l) ≤ 1000000 * (l.length : Int)
  | [], v, h => by show _ ≤ (0 : Int) ∧ (0 : Int) ≤ _; simp
  | y :: l, v, h => by
    have h1 := hM v y h.1
    have h2 := fwl_bd hM l y h.2
    show _ ≤ A v y + fw A (y :: l) ∧ A v y + fw A (y :: l) ≤ _
    simp only [List.length_cons]; omega

/-- a walk of k arcs that ends at v and weighs s -/
def WL (A : Nat → Nat → Int) (n k v : Nat) (s : Int) : Prop := ∃ l : List Nat, l.length = k ∧ lo n (v :: l) ∧ fk A (v :: l) ∧ fw A (v :: l) = s
theorem WL.bd (hM : ∀ i j, A i j ≠ -1000000000000000 → -1000000 ≤ A i j ∧ A i j ≤ 1000000) {k v : Nat} {s : Int} (h : WL A n k v s) : -1000000 * (k : Int) ≤ s ∧ s ≤ 1000000 * (k : Int) := by
  obtain ⟨l, h1, h2, h3, h4⟩ := h
  have := fwl_bd hM l v h3
  rw [h1, h4] at this; exact this
/-- no closed walk has a mean above p / q -/
def NoOver (A : Nat → Nat → Int) (n : Nat) (q p : Int) : Prop := ∀ c t, lo n (c :: t) → fk A (c :: (t ++ [c])) → q * fw A (c :: (t ++ [c])) ≤ p * ((t.length : Int) + 1)

theorem cut1 (hN : NoOver A n q p) {k v : Nat} {s : Int} (h : WL A n k v s) (hk : n ≤ k) : ∃ k' s', k' < k ∧ WL A n k' v s' ∧ q * s - p * (k : Int) ≤ q * s' - p * (k' : Int) := by
  obtain ⟨l, h1, h2, h3, h4⟩ := h
  have hd : ¬ (v :: l).Nodup := fun hd => by
    have := nodup_len n _ hd h2
    simp only [List.length_cons] at this; omega
  obtain ⟨s1, x, t, r, e⟩ := dup_split _ hd
  have hex : ∃ l', s1 ++ x :: r = v :: l' := by
    cases s1 with
    | nil => 
      simp only [List.nil_append, List.cons.injEq] at e
      exact ⟨r, by rw [e.1]; rfl⟩
    | cons y s1 =>
      simp only [List.cons_append, List.cons.injEq] at e
      exact ⟨s1 ++ x :: r, by rw [e.1]; rfl⟩
  obtain ⟨l', hl'⟩ := hex
  have hlen1 : l.length + 1 = s1.length + (t.length + (r.length + 1) + 1) := by
    have := congrArg List.length e
    simpa using this
  have hlen2 : s1.length + (r.length + 1) = l'.length + 1 := by
    have := congrArg List.length hl'
    simpa using this
  rw [e] at h2 h3 h4
  have c1 := fw_app A s1 x (t ++ x :: r)
  have c2 : fw A (x :: (t ++ x :: r)) = fw A (x :: (t ++ [x])) + fw A (x :: r) := fw_app A (x :: t) x r
  have c3 := fw_app A s1 x r
  have k1 := (fk_app A s1 x (t ++ x :: r)).1 h3
  have k2 : fk A (x :: (t ++ [x])) ∧ fk A (x :: r) := (fk_app A (x :: t) x r).1 k1.2
  have k3 := (fk_app A s1 x r).2 ⟨k1.1, k2.2⟩
  have hmem : ∀ y, y ∈ s1 ∨ y = x ∨ y ∈ t ∨ y ∈ r → y < n := fun y hy => h2 y (by
    simp only [List.mem_append, List.mem_cons]
    rcases hy with h | h | h | h
    · exact .inl h
    · exact .inr (.inl h)
    · exact .inr (.inr (.inl h))
    · exact .inr (.inr (.inr (.inr h))))
  have hcy := hN x t (fun y hy => hmem y (by
    rcases List.mem_cons.1 hy with h | h
    · exact .inr (.inl h)
    · exact .inr (.inr (.inl h)))) k2.1
  have hlo' : lo n (s1 ++ x :: r) := fun y hy => hmem y (by
    rcases List.mem_append.1 hy with h | h
    · exact .inl h
    · rcases List.mem_cons.1 h with h | h
      · exact .inr (.inl h)
      · exact .inr (.inr (.inr h)))
  refine ⟨l'.length, fw A (v :: l'), by omega, ⟨l', rfl, by rw [← hl']; exact hlo', by rw [← hl']; exact k3, rfl⟩, ?_⟩
  rw [← hl', c3, ← h4, c1, c2]
  have hkk : (k : Int) = (l'.length : Int) + ((t.length : Int) + 1) := by omega
  rw [hkk, Int.mul_add p, Int.mul_add q, Int.mul_add q, Int.mul_add q]
  omega
theorem cutN (hn : 0 < n) (hN : NoOver A n q p) {v : Nat} : ∀ (k : Nat) (s : Int), WL A n k v s → ∃ k' s', k' < n ∧ WL A n k' v s' ∧ q * s - p * (k : Int) ≤ q * s' - p * (k' : Int) := by
  intro k
  induction k using Nat.strongRecOn with
  | ind k ih =>
    intro s h
    by_cases hk : k < n
    · exact ⟨k, s, hk, h, Int.le_refl _⟩
    · obtain ⟨k', s', h1, h2, h3⟩ := cut1 hN h (by omega)
      obtain ⟨k2, s2, h4, h5, h6⟩ := ih k' h1 s' h2
      exact ⟨k2, s2, h4, h5, by omega⟩

section
variable {D : Nat → Nat → Int} (hD : ∀ k, k ≤ n → ∀ v, v < n → Top (WL A n k v) (D k v)) (hM : ∀ i j, A i j ≠ -1000000000000000 → -1000000 ≤ A i j ∧ A i j ≤ 1000000) (hn : 0 < n) (hn2 : n ≤ 100)
include hD hM hn hn2
theorem karp_fin {k v : Nat} (hk : k ≤ n) (hv : v < n) {s : Int} (h : WL A n k v s) : D k v ≠ -1000000000000000 ∧ s ≤ D k v := by
  rcases hD k hk v hv with ⟨_, h1⟩ | ⟨h1, h2⟩
  · exact absurd h (h1 s)
  · have := h1.bd hM
    exact ⟨by omega, h2 s h⟩
omit hM hn hn2 in
theorem karp_wl {k v : Nat} (hk : k ≤ n) (hv : v < n) (h : D k v ≠ -1000000000000000) : WL A n k v (D k v) := by
  rcases hD k hk v hv with ⟨h1, _⟩ | ⟨h1, h2⟩
  · exact absurd h1 h
  · exact h1
omit hM hn hn2 in
theorem karp_none (hC : ∀ c t, lo n (c :: t) → ¬ fk A (c :: (t ++ [c]))) {v : Nat} (hv : v < n) : D n v = -1000000000000000 := by
  rcases hD n (Nat.le_refl n) v hv with ⟨h1, _⟩ | ⟨h1, h2⟩
  · exact h1
  · exfalso
    have hN : NoOver A n 1 (-1) := fun c t h1 h2 => absurd h2 (hC c t h1)
    obtain ⟨l, g1, g2, g3, g4⟩ := h1
    have hd : ¬ (v :: l).Nodup := fun hd => by
      have := nodup_len n _ hd g2
      simp only [List.length_cons] at this; omega
    obtain ⟨s1, x, t, r, e⟩ := dup_split _ hd
    rw [e] at g2 g3
    have k1 := (fk_app A s1 x (t ++ x :: r)).1 g3
    have k2 : fk A (x :: (t ++ [x])) ∧ fk A (x :: r) := (fk_app A (x :: t) x r).1 k1.2
    refine hC x t (fun y hy => g2 y ?_) k2.1
    simp only [List.mem_append, List.mem_cons]
    rcases List.mem_cons.1 hy with h | h
    · exact .inr (.inl h)
    · exact .inr (.inr (.inl h))
theorem karp_le (hN : NoOver A n q p) (hq : 0 < q) {v : Nat} (hv : v < n) (h : D n v ≠ -1000000000000000) : ∃ k, k < n ∧ D k v ≠ -1000000000000000 ∧ q * (D n v - D k v) ≤ p * ((n : Int) - (k : Int)) := by
  have h1 := karp_wl hD (Nat.le_refl n) hv h
  obtain ⟨k', s', h2, h3, h4⟩ := cutN hn hN n _ h1
  have h5 := karp_fin hD hM hn hn2 (by omega) hv h3
  refine ⟨k', h2, h5.1, ?_⟩
  have h6 := Int.mul_le_mul_of_nonneg_left h5.2 (Int.le_of_lt hq)
  rw [Int.mul_sub, Int.mul_sub]
  omega

/-- no walk that ends at v does better than this one -/
def Opt (A : Nat → Nat → Int) (n : Nat) (q p : Int) (v : Nat) (l : List Nat) : Prop := lo n (v :: l) ∧ fk A (v :: l) ∧ ∀ k s, WL A n k v s → q * s - p * (k : Int) ≤ q * fw A (v :: l) - p * (l.length : Int)
theorem opt_ex (hN : NoOver A n q p) (hq : 0 < q) {v : Nat} (hv : v < n) : ∃ l, l.length < n ∧ Opt A n q p v l := by
  have key : ∀ j, j + 1 ≤ n → ∃ l : List Nat, l.length < j + 1 ∧ lo n (v :: l) ∧ fk A (v :: l) ∧ ∀ k s, k < j + 1 → WL A n k v s → q * s - p * (k : Int) ≤ q * fw A (v :: l) - p * (l.length : Int) := by
    intro j
    induction j with
    | zero =>
      intro _
      refine ⟨[], Nat.zero_lt_succ _, lo_cons.2 ⟨hv, lo_nil _⟩, trivial, fun k s hk h => ?_⟩
      obtain ⟨l, h1, h2, h3, h4⟩ := h
      have : l = [] := List.eq_nil_of_length_eq_zero (by omega)
      subst this
      have h1' : k = 0 := by simpa using h1.symm
      subst h1'
      rw [← h4]; exact Int.le_refl _
    | succ j ih =>
      intro hj
      obtain ⟨l, h1, h2, h3, h4⟩ := ih (by omega)
      by_cases hb : D (j + 1) v = -1000000000000000
      · refine ⟨l, by omega, h2, h3, fun k s hk h => ?_⟩
        by_cases e : k = j + 1
        · subst e
          exact absurd hb (karp_fin hD hM hn hn2 (by omega) hv h).1
        · exact h4 k s (by omega) h
      · obtain ⟨l2, g1, g2, g3, g4⟩ := karp_wl hD (by omega) hv hb
        have hmax : ∀ s, WL A n (j + 1) v s → q * s ≤ q * fw A (v :: l2) := fun s h => by
          have := (karp_fin hD hM hn hn2 (by omega) hv h).2
          rw [g4]
          exact Int.mul_le_mul_of_nonneg_left this (Int.le_of_lt hq)
        by_cases hc : q * fw A (v :: l) - p * (l.length : Int) ≤ q * fw A (v :: l2) - p * (l2.length : Int)
        · refine ⟨l2, by omega, g2, g3, fun k s hk h => ?_⟩
          by_cases e : k = j + 1
          · subst e
            have := hmax s h
            rw [g1]; omega
          · have := h4 k s (by omega) h
            omega
        · refine ⟨l, by omega, h2, h3, fun k s hk h => ?_⟩
          by_cases e : k = j + 1
          · subst e
            have := hmax s h
            rw [g1] at hc; omega
          · exact h4 k s (by omega) h
  obtain ⟨l, h1, h2, h3, h4⟩ := key (n - 1) (by omega)
  refine ⟨l, by omega, h2, h3, fun k s h => ?_⟩
  obtain ⟨k', s', g1, g2, g3⟩ := cutN hn hN k s h
  have := h4 k' s' (by omega) g2
  omega
/-- a cycle with the mean p / q -/
def Zc (A : Nat → Nat → Int) (n : Nat) (q p : Int) (c : Nat) (t : List Nat) : Prop := lo n (c :: t) ∧ fk A (c :: (t ++ [c])) ∧ q * fw A (c :: (t ++ [c])) = p * ((t.length : Int) + 1)
omit hD hM hn hn2 in
theorem opt_step {c : Nat} {t l : List Nat} (hZ : Zc A n q p c t) (hO : Opt A n q p c l) : ∃ x t2, Zc A n q p x t2 ∧ Opt A n q p x (c :: l) := by
  obtain ⟨z1, z2, z3⟩ := hZ
  obtain ⟨o1, o2, o3⟩ := hO
  rcases snoc_cases t with rfl | ⟨t', x, rfl⟩
  · have hcc : A c c ≠ -1000000000000000 := z2.1
    refine ⟨c, [], ⟨z1, z2, z3⟩, lo_cons.2 ⟨(lo_cons.1 z1).1, o1⟩, ⟨hcc, o2⟩, fun k s h => ?_⟩
    have h1 := o3 k s h
    have e1 : fw A (c :: ([] ++ [c])) = A c c := by show A c c + 0 = A c c; omega
    rw [e1] at z3
    have e2 : fw A (c :: c :: l) = A c c + fw A (c :: l) := rfl
    rw [e2, Int.mul_add]
    simp only [List.length_nil, List.length_cons] at z3 ⊢
    rw [show (((0 : Nat) : Int) + 1) = 1 by rfl, Int.mul_one] at z3
    rw [show ((l.length + 1 : Nat) : Int) = (l.length : Int) + 1 by omega, Int.mul_add, Int.mul_one]
    omega
  · have e0 : c :: ((t' ++ [x]) ++ [c]) = (c :: t') ++ x :: [c] := by simp
    rw [e0] at z2 z3
    have k1 := (fk_app A (c :: t') x [c]).1 z2
    have w1 := fw_app A (c :: t') x [c]
    have hxc : A x c ≠ -1000000000000000 := k1.2.1
    have e1 : fw A [x, c] = A x c := by show A x c + 0 = A x c; omega
    rw [e1] at w1
    rw [w1, Int.mul_add] at z3
    have hx : x < n := z1 x (by simp)
    have hlo2 : lo n (x :: c :: t') := fun y hy => z1 y (by
      simp only [List.mem_cons, List.mem_append] at hy ⊢
      rcases hy with h | h | h
      · exact .inr (.inr (.inl h))
      · exact .inl h
      · exact .inr (.inl h))
    have hl2 : ((t' ++ [x]).length : Int) = (t'.length : Int) + 1 := by simp
    rw [hl2] at z3
    refine ⟨x, c :: t', ⟨hlo2, ⟨hxc, k1.1⟩, ?_⟩, lo_cons.2 ⟨hx, o1⟩, ⟨hxc, o2⟩, fun k s h => ?_⟩
    · have e2 : fw A (x :: (c :: t' ++ [x])) = A x c + fw A ((c :: t') ++ [x]) := rfl
      rw [e2, Int.mul_add]
      simp only [List.length_cons]
      rw [show ((t'.length + 1 : Nat) : Int) = (t'.length : Int) + 1 by omega]
      omega
    · obtain ⟨l', g1, g2, g3, g4⟩ := h
      have hw : WL A n (t'.length + 1 + k) c (fw A ((c :: t') ++ [x]) + s) := by
        refine ⟨t' ++ x :: l', by simp; omega, fun y hy => ?_, (fk_app A (c :: t') x l').2 ⟨k1.1, g3⟩, ?_⟩
        · simp only [List.mem_cons, List.mem_append] at hy
          rcases hy with h | h | h | h
          · exact z1 y (by simp [h])
          · exact z1 y (by simp [h])
          · exact z1 y (by simp [h])
          · exact g2 y (by simp [h])
        · have := fw_app A (c :: t') x l'
          rw [g4] at this
          exact this
      have h1 := o3 _ _ hw
      have e2 : fw A (x :: c :: l) = A x c + fw A (c :: l) := rfl
      rw [e2, Int.mul_add]
      simp only [List.length_cons]
      rw [Int.mul_add] at h1
      rw [show ((t'.length + 1 + k : Nat) : Int) = ((t'.length : Int) + 1) + (k : Int) by omega, Int.mul_add p] at h1
      rw [show ((l.length + 1 : Nat) : Int) = (l.length : Int) + 1 by omega, Int.mul_add p, Int.mul_one]
      rw [Int.mul_add p, Int.mul_one] at z3
      omega
omit hD hM hn hn2 in
theorem opt_iter : ∀ (j : Nat) {c : Nat} {t l : List Nat}, Zc A n q p c t → Opt A n q p c l → ∃ v l', l'.length = l.length + j ∧ Opt A n q p v l'
  | 0, c, t, l, hZ, hO => ⟨c, l, rfl, hO⟩
  | j + 1, c, t, l, hZ, hO => by
    obtain ⟨x, t2, h1, h2⟩ := opt_step hZ hO
    obtain ⟨v, l', h3, h4⟩ := opt_iter j h1 h2
    exact ⟨v, l', by rw [h3]; simp; omega, h4⟩
theorem karp_ge (hN : NoOver A n q p) (hq : 0 < q) {c : Nat} {t : List Nat} (hZ : Zc A n q p c t) :
    ∃ v, v < n ∧ D n v ≠ -1000000000000000 ∧ ∀ k, k < n → D k v ≠ -1000000000000000 → p * ((n : Int) - (k : Int)) ≤ q * (D n v - D k v) := by
  obtain ⟨l, h1, h2⟩ := opt_ex hD hM hn hn2 hN hq (lo_cons.1 hZ.1).1
  obtain ⟨v, l', h3, h4⟩ := opt_iter (n - l.length) hZ h2
  obtain ⟨o1, o2, o3⟩ := h4
  have hv := (lo_cons.1 o1).1
  have hl : l'.length = n := by omega
  have hw : WL A n n v (fw A (v :: l')) := ⟨l', hl, o1, o2, rfl⟩
  have h5 := karp_fin hD hM hn hn2 (Nat.le_refl n) hv hw
  refine ⟨v, hv, h5.1, fun k hk hb => ?_⟩
  have h6 := o3 k _ (karp_wl hD (by omega) hv hb)
  have h7 := Int.mul_le_mul_of_nonneg_left h5.2 (Int.le_of_lt hq)
  rw [hl] at h6
  rw [Int.mul_sub, Int.mul_sub]
  omega
end

/-- a closed walk may be made simple, beginning with its least node, and its mean stays above a number -/
theorem rotate {c : Nat} {t : List Nat} (hd : (c :: t).Nodup) (h1 : lo n (c :: t)) (h2 : fk A (c :: (t ++ [c]))) :
    ∃ z m, (z :: m).Nodup ∧ lo n (z :: m) ∧ (∀ y ∈ m, z < y) ∧ fk A (z :: (m ++ [z])) ∧ fw A (z :: (m ++ [z])) = fw A (c :: (t ++ [c])) ∧ m.length = t.length := by
  have hmin : ∀ (l : List Nat) (a : Nat), ∃ z ∈ a :: l, ∀ y ∈ a :: l, z ≤ y := by
    intro l
    induction l with
    | nil => intro a; exact ⟨a, by simp, fun y hy => by simp at hy; omega⟩
    | cons b l ih =>
      intro a
      obtain ⟨z, hz, hy⟩ := ih b
      by_cases e : a ≤ z
      · refine ⟨a, by simp, fun y h => ?_⟩
        rcases List.mem_cons.1 h with h | h
        · omega
        · have := hy y h; omega
      · refine ⟨z, List.mem_cons_of_mem _ hz, fun y h => ?_⟩
        rcases List.mem_cons.1 h with h | h
        · omega
        · exact hy y h
  obtain ⟨z, hz, hle⟩ := hmin t c
  obtain ⟨s, r, e⟩ := List.append_of_mem hz
  have hd2 : (z :: (r ++ s)).Nodup := by
    rw [e] at hd
    exact (List.perm_append_comm.nodup_iff).1 hd
  have hmem : ∀ y, y ∈ r ++ s → y ∈ c :: t := fun y hy => by
    rw [e]
    simp only [List.mem_append, List.mem_cons] at hy ⊢
    rcases hy with h | h
    · exact .inr (.inr h)
    · exact .inl h
  have hlt : ∀ y ∈ r ++ s, z < y := fun y hy => by
    have h3 := hle y (hmem y hy)
    have h4 : z ≠ y := fun e => (List.nodup_cons.1 hd2).1 (by rw [e]; exact hy)
    omega
  have hlo : lo n (z :: (r ++ s)) := fun y hy => h1 y (by
    rcases List.mem_cons.1 hy with h | h
    · rw [h]; exact hz
    · exact hmem y h)
  have hlen : (r ++ s).length = t.length := by
    have := congrArg List.length e
    simp at this ⊢; omega
  refine ⟨z, r ++ s, hd2, hlo, hlt, ?_, ?_, hlen⟩
  · cases s with
    | nil =>
      simp only [List.nil_append, List.cons.injEq] at e
      rw [List.append_nil, ← e.1, ← e.2]; exact h2
    | cons y s =>
      simp only [List.cons_append, List.cons.injEq] at e
      obtain ⟨e1, e2⟩ := e
      subst e1; subst e2
      have e3 : c :: ((s ++ z :: r) ++ [c]) = (c :: s) ++ z :: (r ++ [c]) := by simp
      rw [e3] at h2
      have k1 := (fk_app A (c :: s) z (r ++ [c])).1 h2
      have e4 : z :: ((r ++ c :: s) ++ [z]) = (z :: r) ++ c :: (s ++ [z]) := by simp
      rw [e4]
      exact (fk_app A (z :: r) c (s ++ [z])).2 ⟨k1.2, k1.1⟩
  · cases s with
    | nil =>
      simp only [List.nil_append, List.cons.injEq] at e
      rw [List.append_nil, ← e.1, ← e.2]
    | cons y s =>
      simp only [List.cons_append, List.cons.injEq] at e
      obtain ⟨e1, e2⟩ := e
      subst e1; subst e2
      have e3 : c :: ((s ++ z :: r) ++ [c]) = (c :: s) ++ z :: (r ++ [c]) := by simp
      have e4 : z :: ((r ++ c :: s) ++ [z]) = (z :: r) ++ c :: (s ++ [z]) := by simp
      rw [e3, e4]
      have w1 := fw_app A (c :: s) z (r ++ [c])
      have w2 := fw_app A (z :: r) c (s ++ [z])
      have w3 : fw A ((z :: r) ++ [c]) = fw A (z :: (r ++ [c])) := rfl
      have w4 : fw A ((c :: s) ++ [z]) = fw A (c :: (s ++ [z])) := rfl
      omega
theorem simple_cycle : ∀ (L : Nat) (c : Nat) (t : List Nat), t.length ≤ L → lo n (c :: t) → fk A (c :: (t ++ [c])) → p * ((t.length : Int) + 1) < q * fw A (c :: (t ++ [c])) →
    ∃ z m, (z :: m).Nodup ∧ lo n (z :: m) ∧ (∀ y ∈ m, z < y) ∧ fk A (z :: (m ++ [z])) ∧ p * ((m.length : Int) + 1) < q * fw A (z :: (m ++ [z])) := by
  intro L
  induction L with
  | zero =>
    intro c t hl h1 h2 h3
    have : t = [] := List.eq_nil_of_length_eq_zero (by omega)
    subst this
    exact ⟨c, [], by simp, h1, fun y hy => by simp at hy, h2, h3⟩
  | succ L ih =>
    intro c t hl h1 h2 h3
    by_cases hd : (c :: t).Nodup
    · obtain ⟨z, m, g1, g2, g3, g4, g5, g6⟩ := rotate hd h1 h2
      exact ⟨z, m, g1, g2, g3, g4, by rw [g5, g6]; exact h3⟩
    · obtain ⟨s1, x, t1, r, e⟩ := dup_split _ hd
      have e0 : c :: (t ++ [c]) = s1 ++ x :: (t1 ++ x :: (r ++ [c])) := by
        have := congrArg (· ++ [c]) e
        simpa using this
      rw [e0] at h2 h3
      have c1 := fw_app A s1 x (t1 ++ x :: (r ++ [c]))
      have c2 : fw A (x :: (t1 ++ x :: (r ++ [c]))) = fw A (x :: (t1 ++ [x])) + fw A (x :: (r ++ [c])) := fw_app A (x :: t1) x (r ++ [c])
      have c3 := fw_app A s1 x (r ++ [c])
      have k1 := (fk_app A s1 x (t1 ++ x :: (r ++ [c]))).1 h2
      have k2 : fk A (x :: (t1 ++ [x])) ∧ fk A (x :: (r ++ [c])) := (fk_app A (x :: t1) x (r ++ [c])).1 k1.2
      have k3 := (fk_app A s1 x (r ++ [c])).2 ⟨k1.1, k2.2⟩
      have hlen1 : t.length + 1 = s1.length + (t1.length + (r.length + 1) + 1) := by
        have := congrArg List.length e
        simpa using this
      have hmem : ∀ y, y ∈ s1 ∨ y = x ∨ y ∈ t1 ∨ y ∈ r → y < n := fun y hy => h1 y (by
        rw [e]
        simp only [List.mem_append, List.mem_cons]
        rcases hy with h | h | h | h
        · exact .inl h
        · exact .inr (.inl h)
        · exact .inr (.inr (.inl h))
        · exact .inr (.inr (.inr (.inr h))))
      by_cases hin : p * ((t1.length : Int) + 1) < q * fw A (x :: (t1 ++ [x]))
      · exact ih x t1 (by omega) (fun y hy => hmem y (by
          rcases List.mem_cons.1 hy with h | h
          · exact .inr (.inl h)
          · exact .inr (.inr (.inl h)))) k2.1 hin
      · obtain ⟨t2, ht2, hlt2⟩ : ∃ t2, s1 ++ x :: r = c :: t2 ∧ s1 ++ x :: (r ++ [c]) = c :: (t2 ++ [c]) := by
          cases s1 with
          | nil =>
            simp only [List.nil_append, List.cons.injEq] at e
            exact ⟨r, by rw [e.1]; rfl, by rw [e.1]; rfl⟩
          | cons y s1 =>
            simp only [List.cons_append, List.cons.injEq] at e
            exact ⟨s1 ++ x :: r, by rw [e.1]; rfl, by rw [e.1]; simp⟩
        have hlen2 : s1.length + (r.length + 1) = t2.length + 1 := by
          have := congrArg List.length ht2
          simpa using this
        refine ih c t2 (by omega) (fun y hy => hmem y ?_) (by rw [← hlt2]; exact k3) ?_
        · rw [← ht2] at hy
          rcases List.mem_append.1 hy with h | h
          · exact .inl h
          · rcases List.mem_cons.1 h with h | h
            · exact .inr (.inl h)
            · exact .inr (.inr (.inr h))
        · rw [← hlt2, c3]
          rw [c1, c2, show (t.length : Int) + 1 = ((t2.length : Int) + 1) + ((t1.length : Int) + 1) by omega, Int.mul_add p, Int.mul_add q, Int.mul_add q] at h3
          rw [Int.mul_add q]
          omega
end

/-- ratios in lowest terms -/
theorem ratOf_low {a b : Int} (hb : 0 < b) : (ratOf a b).1 * b = a * (ratOf a b).2 ∧ 0 < (ratOf a b).2 ∧ gcdI (ratOf a b).1 (ratOf a b).2 = 1 := by
  have hs : sgnR a b = (a, b) := by unfold sgnR; rw [if_neg (by omega)]
  unfold ratOf
  rw [hs]
  simp only
  have hg := gcdI_le (a := a) hb
  have hga : gcdI a b ∣ a := by unfold gcdI; exact Int.gcd_dvd_left ..
  have hgb : gcdI a b ∣ b := by unfold gcdI; exact Int.gcd_dvd_right ..
  have ea : a.tdiv (gcdI a b) = a / gcdI a b := Int.tdiv_eq_ediv_of_dvd hga
  have eb : b.tdiv (gcdI a b) = b / gcdI a b := Int.tdiv_eq_ediv_of_dvd hgb
  rw [ea, eb]
  obtain ⟨x, hx⟩ := hga
  obtain ⟨y, hy⟩ := hgb
  have e1 : a / gcdI a b = x := by
    have := Int.mul_ediv_cancel_left x (show gcdI a b ≠ 0 by omega)
    rw [← hx] at this; exact this
  have e2 : b / gcdI a b = y := by
    have := Int.mul_ediv_cancel_left y (show gcdI a b ≠ 0 by omega)
    rw [← hy] at this; exact this
  rw [e1, e2]
  have hy0 : 0 < y := by
    rcases Int.lt_trichotomy y 0 with h | h | h
    · have := Int.mul_neg_of_pos_of_neg hg.1 h; omega
    · rw [h, Int.mul_zero] at hy; omega
    · exact h
  refine ⟨?_, hy0, ?_⟩
  · calc x * b = x * (gcdI a b * y) := by rw [← hy]
      _ = (gcdI a b * x) * y := by rw [← Int.mul_assoc, Int.mul_comm x]
      _ = a * y := by rw [← hx]
  · have hgg : gcdI (gcdI a b * x) (gcdI a b * y) = gcdI a b * gcdI x y := by
      unfold gcdI
      rw [Int.gcd_mul_left]
      simp
    rw [← hx, ← hy] at hgg
    have h3 : gcdI a b * gcdI x y = gcdI a b * 1 := by rw [Int.mul_one]; exact hgg.symm
    exact Int.eq_of_mul_eq_mul_left (by omega) h3
theorem dvd_cop {a b c : Int} (h : a ∣ b * c) (hg : Int.gcd a b = 1) : a ∣ c := by
  have h1 : a.natAbs ∣ b.natAbs * c.natAbs := by rw [← Int.natAbs_mul]; exact Int.natAbs_dvd_natAbs.2 h
  have h2 : Nat.Coprime a.natAbs b.natAbs := hg
  exact Int.natAbs_dvd_natAbs.1 (h2.dvd_of_dvd_mul_left h1)
theorem low_eq {a b : Int × Int} (ha : 0 < a.2) (hb : 0 < b.2) (ga : gcdI a.1 a.2 = 1) (gb : gcdI b.1 b.2 = 1) (e : a.1 * b.2 = b.1 * a.2) : a = b := by
  have h1 : a.2 ∣ b.2 := by
    have hd : a.2 ∣ a.1 * b.2 := ⟨b.1, by rw [e, Int.mul_comm]⟩
    have hg : Int.gcd a.2 a.1 = 1 := by
      unfold gcdI at ga; rw [Int.gcd_comm]; omega
    exact dvd_cop hd hg
  have h2 : b.2 ∣ a.2 := by
    have hd : b.2 ∣ b.1 * a.2 := ⟨a.1, by rw [← e, Int.mul_comm]⟩
    have hg : Int.gcd b.2 b.1 = 1 := by
      unfold gcdI at gb; rw [Int.gcd_comm]; omega
    exact dvd_cop hd hg
  have h3 := Int.le_of_dvd hb h1
  have h4 := Int.le_of_dvd ha h2
  have h5 : a.2 = b.2 := by omega
  rw [h5] at e
  have h6 := Int.eq_of_mul_eq_mul_right (by omega) e
  exact Prod.ext h6 h5
/-- fractions with positive denominators -/
def leF (a b : Int × Int) : Prop := a.1 * b.2 ≤ b.1 * a.2
theorem leF.trans {a b c : Int × Int} (ha : 0 < a.2) (hb : 0 < b.2) (hc : 0 < c.2) (h : leF a b) (g : leF b c) : leF a c := by
  unfold leF at *
  have h1 := Int.mul_le_mul_of_nonneg_right h (Int.le_of_lt hc)
  have h2 := Int.mul_le_mul_of_nonneg_right g (Int.le_of_lt ha)
  refine Int.le_of_mul_le_mul_left (a := b.2) ?_ hb
  have e1 : b.2 * (a.1 * c.2) = a.1 * b.2 * c.2 := by rw [← Int.mul_assoc, Int.mul_comm b.2 a.1]
  have e2 : b.1 * a.2 * c.2 = b.1 * c.2 * a.2 := by rw [Int.mul_assoc, Int.mul_comm a.2, ← Int.mul_assoc]
  have e3 : b.2 * (c.1 * a.2) = c.1 * b.2 * a.2 := by rw [← Int.mul_assoc, Int.mul_comm b.2 c.1]
  omega
theorem cmpR_lt {a b : Int × Int} : cmpR a b < 0 ↔ ¬ leF b a := by unfold cmpR cmpI leF; split <;> (try split) <;> omega
theorem cmpR_gt {a b : Int × Int} : 0 < cmpR a b ↔ ¬ leF a b := by unfold cmpR cmpI leF; split <;> (try split) <;> omega
theorem leF.total (a b : Int × Int) : leF a b ∨ leF b a := by unfold leF; omega
end Go.Proofs.Ytljchmkoafahgaa
