/- Plain law: the heaviest path with the fewest nodes. No program is entered. -/
import Derived.Test.YtokhkpbebimohaaGK
namespace Go.Proofs.Ytokhkpbebimohaa
set_option linter.unusedVariables false

/-- the first number below m of which g holds, m if there is none -/
def firstK (g : Nat → Bool) : Nat → Nat
  | 0 => 0
  | m + 1 => if g 0 then 0 else firstK (fun i => g (i + 1)) m + 1
theorem firstK_eq : ∀ {m : Nat} {g : Nat → Bool} {k : Nat}, (∀ j, j < k → g j = false) → k ≤ m → (g k = true ∨ k = m) → firstK g m = k
  | 0, g, k, h, hk, hg => by obtain rfl : k = 0 := by omega
                             rfl
  | m + 1, g, 0, h, hk, hg => by
    rcases hg with e | e
    · simp [firstK, e]
    · omega
  | m + 1, g, k + 1, h, hk, hg => by
    have h0 := h 0 (by omega)
    have := firstK_eq (m := m) (g := fun i => g (i + 1)) (k := k) (fun j hj => h (j + 1) (by omega)) (by omega) (by rcases hg with e | e; exact .inl e; exact .inr (by omega))
    simp [firstK, h0, this]
theorem firstK_spec : ∀ {m : Nat} {g : Nat → Bool}, (∃ k, k < m ∧ g k = true) → firstK g m < m ∧ g (firstK g m) = true ∧ ∀ j, j < firstK g m → g j = false
  | 0, g, ⟨k, hk, _⟩ => by omega
  | m + 1, g, ⟨k, hk, hg⟩ => by
    by_cases h0 : g 0 = true
    · simp [firstK, h0]
    · have h0' : g 0 = false := by simpa using h0
      have hk0 : k ≠ 0 := by rintro rfl; rw [h0'] at hg; cases hg
      have := firstK_spec (m := m) (g := fun i => g (i + 1)) ⟨k - 1, by omega, by rw [show k - 1 + 1 = k by omega]; exact hg⟩
      have e : firstK g (m + 1) = firstK (fun i => g (i + 1)) m + 1 := by simp [firstK, h0']
      rw [e]
      refine ⟨by omega, this.2.1, fun j hj => ?_⟩
      cases j with
      | zero => exact h0'
      | succ j => exact this.2.2 j (by omega)

/-- the greatest weight of a walk of k arcs from node v to node u: row u of the k-th power -/
def lk (A : Nat → Nat → Int) (n u : Nat) : Nat → Nat → Int
  | 0 => unitF u
  | k + 1 => fun v => mx n fun z => times (lk A n u k z) (A z v)
/-- the powers -/
def pw (x : List (List Int)) (n : Nat) : Nat → List (List Int)
  | 0 => mkMat n n unitF
  | k + 1 => mkMat n n (mulE n (pw x n k) x)
theorem pw_rect (x : List (List Int)) (n k : Nat) : Rect (pw x n k) n n := by cases k <;> exact rect_mk _ _ _
theorem pw_ent (x : List (List Int)) {n u : Nat} (hu : u < n) : ∀ (k : Nat) {v : Nat}, v < n → ent (pw x n k) u v = lk (ent x) n u k v
  | 0, v, hv => mkMat_ent hu hv
  | k + 1, v, hv => by
    show ent (mkMat n n (mulE n (pw x n k) x)) u v = _
    rw [mkMat_ent hu hv]
    exact mx_congr fun z hz => by rw [pw_ent x hu k hz]
/-- the walks of k arcs -/
def WX (A : Nat → Nat → Int) (n : Nat) : Nat → Nat → Nat → Int → Prop
  | 0, u, v, s => u = v ∧ s = 0
  | k + 1, u, v, s => ∃ m, m.length = k ∧ lo n m ∧ wk A u m v ∧ wt A u m v = s
section
variable {A : Nat → Nat → Int} {n : Nat} (h : ABd A n 1000000) {u : Nat}
include h
theorem lk_bd : ∀ (k : Nat) (v : Nat), lk A n u k v = -1000000000000000 ∨ (-1000000 * (k : Int) ≤ lk A n u k v ∧ lk A n u k v ≤ 1000000 * (k : Int))
  | 0, v => by show unitF u v = _ ∨ _ ≤ unitF u v ∧ unitF u v ≤ _; unfold unitF; split <;> omega
  | k + 1, v => by
    rcases (mx_spec (n := n) (f := fun z => times (lk A n u k z) (A z v))).1 with e | ⟨z, hz, e⟩
    · exact .inl e
    · show mx n _ = _ ∨ _ ≤ mx n _ ∧ mx n _ ≤ _
      rw [e]
      have h1 := lk_bd k z
      have h2 := h.bd z v
      unfold times
      split
      · exact .inl rfl
      · rename_i hn
        rw [not_or] at hn
        have := h2 hn.2
        rcases h1 with h1 | h1
        · exact absurd h1 hn.1
        · right; omega
omit h in
theorem lk_wx : ∀ (k : Nat) (v : Nat), u < n → v < n → lk A n u k v ≠ -1000000000000000 → WX A n k u v (lk A n u k v)
  | 0, v, hu, hv, hne => by
    change unitF u v ≠ _ at hne
    show u = v ∧ unitF u v = 0
    unfold unitF at hne ⊢
    split at hne
    · rename_i e; exact ⟨e, if_pos e⟩
    · exact absurd rfl hne
  | k + 1, v, hu, hv, hne => by
    have hm := (mx_spec (n := n) (f := fun z => times (lk A n u k z) (A z v))).1
    change mx n _ ≠ _ at hne
    show WX A n (k + 1) u v (mx n _)
    rcases hm with e | ⟨z, hz, e⟩
    · exact absurd e hne
    · rw [e] at hne ⊢
      have hn : ¬ (lk A n u k z = -1000000000000000 ∨ A z v = -1000000000000000) := fun c => hne (by unfold times; rw [if_pos c])
      have hs : times (lk A n u k z) (A z v) = lk A n u k z + A z v := by unfold times; rw [if_neg hn]
      rw [hs]
      rw [not_or] at hn
      have hw := lk_wx k z hu hz hn.1
      cases k with
      | zero =>
        obtain ⟨rfl, e0⟩ := hw
        exact ⟨[], rfl, lo_nil _, hn.2, by rw [e0]; show A u v = 0 + A u v; omega⟩
      | succ k =>
        obtain ⟨m, m1, m2, m3, m4⟩ := hw
        exact ⟨m ++ [z], by simp [m1], lo_app.2 ⟨m2, lo_cons.2 ⟨hz, lo_nil _⟩⟩, (wk_app _ _ _ _ _).2 ⟨m3, hn.2⟩, by rw [wt_app, m4]; rfl⟩
theorem lk_top : ∀ (k : Nat) (v : Nat) (s : Int), k ≤ n + 1 → n ≤ 10 → u < n → v < n → WX A n k u v s → s ≤ lk A n u k v
  | 0, v, s, hk, hn, hu, hv, ⟨e1, e2⟩ => by show s ≤ unitF u v; unfold unitF; rw [if_pos e1]; omega
  | 1, v, s, hk, hn, hu, hv, ⟨m, m1, m2, m3, m4⟩ => by
    obtain rfl := List.eq_nil_of_length_eq_zero m1
    have h1 := (mx_spec (n := n) (f := fun z => times (lk A n u 0 z) (A z v))).2 u hu
    have m3' : A u v ≠ -1000000000000000 := m3
    have m4' : A u v = s := m4
    have e : times (lk A n u 0 u) (A u v) = A u v := by
      have : lk A n u 0 u = 0 := by show unitF u u = 0; unfold unitF; rw [if_pos rfl]
      rw [this]; unfold times; rw [if_neg (by rintro (e | e); omega; exact m3' e)]; omega
    rw [e, m4'] at h1
    exact h1
  | k + 2, v, s, hk, hn, hu, hv, ⟨m, m1, m2, m3, m4⟩ => by
    have hne : m ≠ [] := by rintro rfl; simp at m1
    obtain ⟨m', z, rfl⟩ : ∃ m' z, m = m' ++ [z] := ⟨m.dropLast, m.getLast hne, (List.dropLast_concat_getLast hne).symm⟩
    rw [wk_app] at m3
    rw [wt_app] at m4
    have hz := (lo_cons.1 (lo_app.1 m2).2).1
    have hl : m'.length = k := by simpa using m1
    have ih := lk_top (k + 1) z _ (by omega) hn hu hz ⟨m', hl, (lo_app.1 m2).1, m3.1, rfl⟩
    have hb := wt_bd h.bd m3.1
    have a1 : A z v ≠ -1000000000000000 := m3.2
    have a2 : wt A u m' z + A z v = s := m4
    have h1 := (mx_spec (n := n) (f := fun z => times (lk A n u (k + 1) z) (A z v))).2 z hz
    have e : times (lk A n u (k + 1) z) (A z v) = lk A n u (k + 1) z + A z v := by
      unfold times; rw [if_neg (by rintro (e | e); omega; exact a1 e)]
    rw [e] at h1
    show s ≤ mx n _
    omega
/-- the star's entry is that of some power below n + 1 -/
theorem lk_star (hs : starB A n = true) (hn : n ≤ 10) {f : Nat} (hu : u < n) (hf : f < n) (hne : fwS A n u f ≠ -1000000000000000) : ∃ k, k ≤ n ∧ lk A n u k f = fwS A n u f := by
  have ht := rd_top h n (by omega) u f hu hf
  rw [star_eq h hs u f hu hf] at ht
  rcases ht with ⟨e, _⟩ | ⟨hw, hmx⟩
  · exact absurd e hne
  rcases hw with ⟨e1, e2⟩ | ⟨m, m0, m1, m2, m3⟩
  · exact ⟨0, Nat.zero_le _, by show unitF u f = _; unfold unitF; rw [if_pos e1, e2]⟩
  · refine ⟨m.length + 1, m0, ?_⟩
    have h1 := lk_top h (u := u) (m.length + 1) f _ (by omega) hn hu hf ⟨m, rfl, m1, m2, m3⟩
    have hb := wt_bd h.bd m2
    have hne2 : lk A n u (m.length + 1) f ≠ -1000000000000000 := by omega
    obtain ⟨m', a1, a2, a3, a4⟩ := lk_wx (u := u) (m.length + 1) f hu hf hne2
    have h2 := hmx _ (.inr ⟨m', by omega, a2, a3, a4⟩)
    omega
end
/-- is z the next node behind v, where k arcs are left behind it -/
def nextB (A : Nat → Nat → Int) (n u k v z : Nat) : Bool := !(A z v == -1000000000000000) && !(lk A n u k z == -1000000000000000) && (A z v + lk A n u k z == lk A n u (k + 1) v)
def nextN (A : Nat → Nat → Int) (n u k v : Nat) : Nat := firstK (nextB A n u k v) n
theorem nextB_iff {A : Nat → Nat → Int} {n u k v z : Nat} : nextB A n u k v z = true ↔ A z v ≠ -1000000000000000 ∧ lk A n u k z ≠ -1000000000000000 ∧ A z v + lk A n u k z = lk A n u (k + 1) v := by
  unfold nextB
  rw [Bool.and_eq_true, Bool.and_eq_true, Bool.not_eq_true', Bool.not_eq_true', beq_eq_false_iff_ne, beq_eq_false_iff_ne, beq_iff_eq, and_assoc]
/-- the nodes behind v on the heaviest path of k arcs -/
def tailL (A : Nat → Nat → Int) (n u : Nat) : Nat → Nat → List Int
  | 0, _ => []
  | k + 1, v => (nextN A n u k v : Int) :: tailL A n u k (nextN A n u k v)
theorem tailL_len (A : Nat → Nat → Int) (n u : Nat) : ∀ k v, (tailL A n u k v).length = k
  | 0, _ => rfl
  | k + 1, v => by simp [tailL, tailL_len]
theorem next_ex {A : Nat → Nat → Int} {n u k v : Nat} (hne : lk A n u (k + 1) v ≠ -1000000000000000) : nextN A n u k v < n ∧ nextB A n u k v (nextN A n u k v) = true ∧ ∀ j, j < nextN A n u k v → nextB A n u k v j = false := by
  refine firstK_spec ?_
  rcases (mx_spec (n := n) (f := fun z => times (lk A n u k z) (A z v))).1 with e | ⟨z, hz, e⟩
  · exact absurd e hne
  · refine ⟨z, hz, nextB_iff.2 ?_⟩
    have e' : lk A n u (k + 1) v = times (lk A n u k z) (A z v) := e
    have hn : ¬ (lk A n u k z = -1000000000000000 ∨ A z v = -1000000000000000) := fun c => hne (by rw [e']; unfold times; rw [if_pos c])
    rw [e']
    refine ⟨fun c => hn (.inr c), fun c => hn (.inl c), ?_⟩
    unfold times; rw [if_neg hn]; omega
/-- how many arcs the heaviest path has -/
def hpK (A : Nat → Nat → Int) (n u f : Nat) : Nat := firstK (fun k => lk A n u k f == fwS A n u f) (n + 1)
theorem hpK_spec {A : Nat → Nat → Int} {n : Nat} (h : ABd A n 1000000) (hs : starB A n = true) (hn : n ≤ 10) {u f : Nat} (hu : u < n) (hf : f < n) (hne : fwS A n u f ≠ -1000000000000000) :
    hpK A n u f ≤ n ∧ lk A n u (hpK A n u f) f = fwS A n u f ∧ ∀ j, j < hpK A n u f → lk A n u j f ≠ fwS A n u f := by
  obtain ⟨k, h1, h2⟩ := lk_star h hs hn hu hf hne
  obtain ⟨a1, a2, a3⟩ := firstK_spec (m := n + 1) (g := fun k => lk A n u k f == fwS A n u f) ⟨k, by omega, by simpa using h2⟩
  exact ⟨by unfold hpK; omega, by unfold hpK; simpa using a2, fun j hj => by simpa using a3 j hj⟩
/-- HeaviestPath: what it hands back -/
def hpV (x : List (List Int)) (f t : Int) : List Int × Int :=
  if isSq x then (if inR f 0 ((x.length : Int) - 1) && inR t 0 ((x.length : Int) - 1) then (if starB (ent x) x.length then
    (if fwS (ent x) x.length t.toNat f.toNat = -1000000000000000 then ([], 4) else (f :: tailL (ent x) x.length t.toNat (hpK (ent x) x.length t.toNat f.toNat) f.toNat, 0)) else ([], 5)) else ([], 2)) else ([], 1)
end Go.Proofs.Ytokhkpbebimohaa
