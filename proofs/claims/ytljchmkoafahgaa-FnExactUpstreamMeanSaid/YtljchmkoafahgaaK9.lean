/- Plain law: growing a path into cycles, as the search does. No program is entered. -/
import Derived.Test.YtljchmkoafahgaaK7
import Derived.Test.YtljchmkoafahgaaM9
namespace Go.Proofs.Ytljchmkoafahgaa
set_option linter.unusedVariables false

theorem fwY_bd {A : Nat → Nat → Int} (hM : ∀ i j, A i j ≠ -1000000000000000 → -2000000000000 ≤ A i j ∧ A i j ≤ 2000000000000) : ∀ (l : List Nat) (v : Nat), fk A (v :: l) → -2000000000000 * (l.length : Int) ≤ fw A (v :: l) ∧ fw A (v :: l) ≤ 2000000000000 * (l.length : Int)
  | [], v, h => by show _ ≤ (0 : Int) ∧ (0 : Int) ≤ _; simp
  | y :: l, v, h => by
    have h1 := hM v y h.1
    have h2 := fwY_bd hM l y h.2
    show _ ≤ A v y + fw A (y :: l) ∧ A v y + fw A (y :: l) ≤ _
    simp only [List.length_cons]; omega

/-- the node that a path has come to -/
def lst (f : Nat) (m : List Nat) : Nat := (m ++ [f]).headD 0
theorem lst_split (f : Nat) (m : List Nat) : ∃ r, m ++ [f] = lst f m :: r ∧ r.length = m.length := by
  cases m with
  | nil => exact ⟨[], rfl, rfl⟩
  | cons a m => exact ⟨m ++ [f], rfl, by simp⟩
structure GOk (A : Nat → Nat → Int) (n f : Nat) (m : List Nat) : Prop where
  nd : (f :: m).Nodup
  lo : lo n (f :: m)
  lt : ∀ u ∈ m, f < u
  fk : fk A (m ++ [f])
section
variable {A : Nat → Nat → Int} {n f : Nat} {m : List Nat} {over : Int}
theorem GOk.start {f : Nat} (h : f < n) : GOk A n f [] := ⟨by simp, lo_cons.2 ⟨h, lo_nil _⟩, fun u h => by simp at h, trivial⟩
theorem GOk.lt_n (h : GOk A n f m) : lst f m < n := by
  obtain ⟨r, e, _⟩ := lst_split f m
  have : lst f m ∈ m ++ [f] := by rw [e]; simp
  refine h.lo _ ?_
  simp only [List.mem_append, List.mem_cons, List.not_mem_nil, or_false] at this ⊢
  exact this.symm
theorem GOk.close (h : GOk A n f m) (ha : A f (lst f m) ≠ -1000000000000000) : Cy A n f m ∧ cw A f m = fw A (m ++ [f]) + A f (lst f m) := by
  obtain ⟨r, e, _⟩ := lst_split f m
  have hk := h.fk
  refine ⟨⟨h.nd, h.lo, h.lt, ?_⟩, ?_⟩
  · rw [e] at hk ⊢; exact ⟨ha, hk⟩
  · unfold cw; rw [e]; show A f (lst f m) + fw A (lst f m :: r) = _; omega
theorem Cy.ok (h : Cy A n f m) : GOk A n f m ∧ A f (lst f m) ≠ -1000000000000000 := by
  obtain ⟨r, e, _⟩ := lst_split f m
  have hk := h.fk
  rw [e] at hk
  exact ⟨⟨h.nd, h.lo, h.lt, by rw [e]; exact hk.2⟩, hk.1⟩
theorem GOk.grow (h : GOk A n f m) {v : Nat} (h1 : f < v) (h2 : v < n) (h3 : v ∉ m) (ha : A v (lst f m) ≠ -1000000000000000) : GOk A n f (v :: m) ∧ fw A ((v :: m) ++ [f]) = fw A (m ++ [f]) + A v (lst f m) := by
  obtain ⟨r, e, _⟩ := lst_split f m
  have hk := h.fk
  have hd := List.nodup_cons.1 h.nd
  have hl := lo_cons.1 h.lo
  refine ⟨⟨?_, lo_cons.2 ⟨hl.1, lo_cons.2 ⟨h2, hl.2⟩⟩, fun u hu => ?_, ?_⟩, ?_⟩
  · rw [List.nodup_cons]
    refine ⟨fun hm => ?_, List.nodup_cons.2 ⟨h3, hd.2⟩⟩
    rcases List.mem_cons.1 hm with e | e
    · omega
    · exact hd.1 e
  · rcases List.mem_cons.1 hu with e | e
    · omega
    · exact h.lt u e
  · rw [List.cons_append, e]; rw [e] at hk; exact ⟨ha, hk⟩
  · rw [List.cons_append, e]; show A v (lst f m) + fw A (lst f m :: r) = _; omega
theorem beyond_of (h : GOk A n f m) (h0 : A f (lst f m) ≠ -1000000000000000 → fw A (m ++ [f]) + A f (lst f m) ≤ over)
    (h1 : ∀ v, f < v → v < n → v ∉ m → A v (lst f m) ≠ -1000000000000000 → Beyond A n f (v :: m) over) : Beyond A n f m over := by
  intro s hc
  rcases snoc_cases s with rfl | ⟨s', v, rfl⟩
  · have hk := hc.ok.2
    rw [List.nil_append] at hk ⊢
    rw [(h.close hk).2]; exact h0 hk
  · have e : (s' ++ [v]) ++ m = s' ++ v :: m := by simp
    rw [e] at hc ⊢
    have hv : v ∈ s' ++ v :: m := by simp
    have hnd := (List.nodup_append.1 (List.nodup_cons.1 hc.nd).2).2.1
    refine h1 v (hc.lt v hv) (hc.lo v (List.mem_cons_of_mem _ hv)) (List.nodup_cons.1 hnd).1 ?_ s' hc
    have hk := hc.fk
    have e2 : f :: ((s' ++ v :: m) ++ [f]) = (f :: s') ++ v :: (m ++ [f]) := by simp
    rw [e2] at hk
    have hk2 := ((fk_app A (f :: s') v (m ++ [f])).1 hk).2
    obtain ⟨r, e3, _⟩ := lst_split f m
    rw [e3] at hk2
    exact hk2.1
theorem over_of (h : ∀ f, f < n → Beyond A n f [] over) : ∀ f m, Cy A n f m → cw A f m ≤ over := fun f m hc => by
  have := h f (lo_cons.1 hc.lo).1 m (by rw [List.append_nil]; exact hc)
  rwa [List.append_nil] at this
theorem has_path (f : Nat) (m : List Nat) (v : Nat) : has (pathL f m) (v : Int) = decide (v ∈ f :: m) := by
  unfold has pathL castL
  cases e : decide (v ∈ f :: m)
  · have e := of_decide_eq_false e
    cases e2 : ((f :: m.reverse).map fun v : Nat => (v : Int)).contains (v : Int)
    · rfl
    · exfalso
      rw [List.contains_iff_mem, List.mem_map] at e2
      obtain ⟨u, hu, e3⟩ := e2
      obtain rfl : u = v := by omega
      exact e (by simpa using hu)
  · have e := of_decide_eq_true e
    rw [List.contains_iff_mem, List.mem_map]
    exact ⟨v, by simpa using e, rfl⟩
theorem GOk.bd {y : List (List Int)} (hY : YOk y n) {f : Nat} {m : List Nat} (h : GOk (ent y) n f m) : -20000000000000 ≤ fw (ent y) (m ++ [f]) ∧ fw (ent y) (m ++ [f]) ≤ 20000000000000 := by
  obtain ⟨r, e, hr⟩ := lst_split f m
  have hk := h.fk
  have hl := nodup_len n _ h.nd h.lo
  have hh := hY.hi
  rw [e] at hk ⊢
  have := fwY_bd hY.bd r _ hk
  simp only [List.length_cons] at hl
  omega
end
end Go.Proofs.Ytljchmkoafahgaa
