/- Plain law: the table mean is the greatest mean of a cycle; paths that the search grows are cycles. No program is entered. -/
import Derived.Test.YtljchmkoafahgaaE12
import Derived.Test.YtljchmkoafahgaaK4
import Derived.Test.YtljchmkoafahgaaP6
namespace Go.Proofs.Ytljchmkoafahgaa
set_option linter.unusedVariables false

theorem tab_top {x : List (List Int)} (hx : isSq x = true) : ∀ k, k ≤ 100 → ∀ v, v < x.length → Top (WL (ent x) x.length k v) (tabE x k v) := by
  have hM : ∀ i j, ent x i j ≠ -1000000000000000 → -1000000 ≤ ent x i j ∧ ent x i j ≤ 1000000 := fun i j h => isSq_ebd1 hx h
  intro k
  induction k with
  | zero =>
    intro _ v hv
    have e : tabE x 0 v = 0 := by unfold tabE; simp only [tabR]; exact nth_replicate _ _ hv
    rw [e]
    exact .inr ⟨⟨[], rfl, lo_cons.2 ⟨hv, lo_nil _⟩, trivial, rfl⟩, fun s h => by
      obtain ⟨l, h1, h2, h3, h4⟩ := h
      have : l = [] := List.eq_nil_of_length_eq_zero h1
      subst this
      rw [← h4]; exact Int.le_refl _⟩
  | succ k ih =>
    intro hk v hv
    have e : tabE x (k + 1) v = mx x.length (fun t => times (ent x v t) (tabE x k t)) := by
      unfold tabE; simp only [tabR]; rw [mkRow_nth hv]; rfl
    have hms := mx_spec (n := x.length) (f := fun t => times (ent x v t) (tabE x k t))
    have hfin : ∀ t, t < x.length → ∀ s, WL (ent x) x.length k t s → tabE x k t ≠ -1000000000000000 ∧ s ≤ tabE x k t := fun t ht s h => by
      rcases ih (by omega) t ht with ⟨_, h1⟩ | ⟨h1, h2⟩
      · exact absurd h (h1 s)
      · have := h1.bd hM
        exact ⟨by omega, h2 s h⟩
    have hup : ∀ s, WL (ent x) x.length (k + 1) v s → s ≤ tabE x (k + 1) v := by
      intro s h
      obtain ⟨l, h1, h2, h3, h4⟩ := h
      cases l with
      | nil => simp at h1
      | cons y l =>
        simp only [List.length_cons, Nat.add_right_cancel_iff] at h1
        have hy := lo_cons.1 h2
        have hy2 := lo_cons.1 hy.2
        have h5 := hfin y hy2.1 _ ⟨l, h1, hy.2, h3.2, rfl⟩
        have h6 := hms.2 y hy2.1
        have et : times (ent x v y) (tabE x k y) = ent x v y + tabE x k y := by unfold times; rw [if_neg (by have := h3.1; have := h5.1; omega)]
        simp only [et] at h6
        have h7 : fw (ent x) (v :: y :: l) = ent x v y + fw (ent x) (y :: l) := rfl
        rw [e]; omega
    have hlow : ∀ s, WL (ent x) x.length (k + 1) v s → tabE x (k + 1) v ≠ -1000000000000000 := fun s h => by
      have := hup s h
      have := h.bd hM
      omega
    by_cases hb : tabE x (k + 1) v = -1000000000000000
    · exact .inl ⟨hb, fun s h => hlow s h hb⟩
    · refine .inr ⟨?_, hup⟩
      rw [e] at hb ⊢
      rcases hms.1 with e2 | ⟨t, ht, e2⟩
      · exact absurd e2 hb
      · rw [e2] at hb ⊢
        have hne : ¬ (ent x v t = -1000000000000000 ∨ tabE x k t = -1000000000000000) := fun h => hb (by unfold times; rw [if_pos h])
        have et : times (ent x v t) (tabE x k t) = ent x v t + tabE x k t := by unfold times; rw [if_neg hne]
        rw [et]
        rcases ih (by omega) t ht with ⟨h1, _⟩ | ⟨h1, _⟩
        · exact absurd (.inr h1) hne
        · obtain ⟨l, g1, g2, g3, g4⟩ := h1
          exact ⟨t :: l, by simp [g1], lo_cons.2 ⟨hv, g2⟩, ⟨fun h => hne (.inl h), g3⟩, by rw [← g4]; rfl⟩

theorem quoR_low (x : List (List Int)) {v k : Nat} (hk : k < x.length) : (quoR x v k).1 * ((x.length : Int) - (k : Int)) = (tabE x x.length v - tabE x k v) * (quoR x v k).2 ∧ 0 < (quoR x v k).2 ∧ gcdI (quoR x v k).1 (quoR x v k).2 = 1 :=
  ratOf_low (by omega)
theorem least_spec (x : List (List Int)) (v : Nat) : ∀ k, k ≤ x.length →
    (leastO x v k = none ∧ ∀ k1, k1 < k → tabE x k1 v = -1000000000000000) ∨
    ∃ k0, k0 < k ∧ tabE x k0 v ≠ -1000000000000000 ∧ leastO x v k = some (quoR x v k0) ∧ ∀ k1, k1 < k → tabE x k1 v ≠ -1000000000000000 → leF (quoR x v k0) (quoR x v k1) := by
  intro k
  induction k with
  | zero => intro _; exact .inl ⟨rfl, fun k1 h => absurd h (Nat.not_lt_zero _)⟩
  | succ k ih =>
    intro hk
    have hkl : k < x.length := by omega
    by_cases hb : tabE x k v = -1000000000000000
    · have e : leastO x v (k + 1) = leastO x v k := by simp only [leastO]; rw [if_pos hb]
      rw [e]
      rcases ih (by omega) with ⟨h1, h2⟩ | ⟨k0, h1, h2, h3, h4⟩
      · refine .inl ⟨h1, fun k1 h => ?_⟩
        by_cases e : k1 = k
        · rw [e]; exact hb
        · exact h2 k1 (by omega)
      · refine .inr ⟨k0, by omega, h2, h3, fun k1 h g => ?_⟩
        by_cases e : k1 = k
        · rw [e] at g; exact absurd hb g
        · exact h4 k1 (by omega) g
    · have e : leastO x v (k + 1) = match leastO x v k with | none => some (quoR x v k) | some l => if cmpR (quoR x v k) l < 0 then some (quoR x v k) else some l := by simp only [leastO]; rw [if_neg hb]; rfl
      rw [e]
      rcases ih (by omega) with ⟨h1, h2⟩ | ⟨k0, h1, h2, h3, h4⟩
      · rw [h1]
        refine .inr ⟨k, by omega, hb, rfl, fun k1 h g => ?_⟩
        by_cases e : k1 = k
        · rw [e]; unfold leF; exact Int.le_refl _
        · exact absurd (h2 k1 (by omega)) g
      · rw [h3]
        simp only
        by_cases hc : cmpR (quoR x v k) (quoR x v k0) < 0
        · rw [if_pos hc]
          have hc1 := cmpR_lt.1 hc
          have hle : leF (quoR x v k) (quoR x v k0) := (leF.total _ _).resolve_right hc1
          refine .inr ⟨k, by omega, hb, rfl, fun k1 h g => ?_⟩
          by_cases e : k1 = k
          · rw [e]; unfold leF; exact Int.le_refl _
          · exact leF.trans (quoR_low x hkl).2.1 (quoR_low x (by omega)).2.1 (quoR_low x (by omega)).2.1 hle (h4 k1 (by omega) g)
        · rw [if_neg hc]
          have hle : leF (quoR x v k0) (quoR x v k) := Classical.not_not.1 (fun h => hc (cmpR_lt.2 h))
          refine .inr ⟨k0, by omega, h2, rfl, fun k1 h g => ?_⟩
          by_cases e : k1 = k
          · rw [e]; exact hle
          · exact h4 k1 (by omega) g
/-- the least quotient at a node -/
def leastV (x : List (List Int)) (u : Nat) : Int × Int := (leastO x u x.length).getD (0, 0)
theorem leastV_spec {x : List (List Int)} {u : Nat} (hu : u < x.length) : ∃ k0, k0 < x.length ∧ tabE x k0 u ≠ -1000000000000000 ∧ leastV x u = quoR x u k0 ∧ ∀ k1, k1 < x.length → tabE x k1 u ≠ -1000000000000000 → leF (quoR x u k0) (quoR x u k1) := by
  have h0 : tabE x 0 u = 0 := by unfold tabE; simp only [tabR]; exact nth_replicate _ _ hu
  rcases least_spec x u x.length (Nat.le_refl _) with ⟨_, h⟩ | ⟨k0, h1, h2, h3, h4⟩
  · have := h 0 (by omega); omega
  · exact ⟨k0, h1, h2, by unfold leastV; rw [h3]; rfl, h4⟩
theorem leastV_low {x : List (List Int)} {u : Nat} (hu : u < x.length) : 0 < (leastV x u).2 ∧ gcdI (leastV x u).1 (leastV x u).2 = 1 := by
  obtain ⟨k0, h1, _, h3, _⟩ := leastV_spec hu
  rw [h3]; exact (quoR_low x h1).2
theorem best_spec (x : List (List Int)) : ∀ v, v ≤ x.length →
    (bestO x v = none ∧ ∀ u, u < v → tabE x x.length u = -1000000000000000) ∨
    ∃ u0, u0 < v ∧ tabE x x.length u0 ≠ -1000000000000000 ∧ bestO x v = some (leastV x u0) ∧ ∀ u, u < v → tabE x x.length u ≠ -1000000000000000 → leF (leastV x u) (leastV x u0) := by
  intro v
  induction v with
  | zero => intro _; exact .inl ⟨rfl, fun k1 h => absurd h (Nat.not_lt_zero _)⟩
  | succ v ih =>
    intro hv
    have hvl : v < x.length := by omega
    by_cases hb : tabE x x.length v = -1000000000000000
    · have e : bestO x (v + 1) = bestO x v := by simp only [bestO]; rw [if_pos hb]
      rw [e]
      rcases ih (by omega) with ⟨h1, h2⟩ | ⟨u0, h1, h2, h3, h4⟩
      · refine .inl ⟨h1, fun u h => ?_⟩
        by_cases e : u = v
        · rw [e]; exact hb
        · exact h2 u (by omega)
      · refine .inr ⟨u0, by omega, h2, h3, fun u h g => ?_⟩
        by_cases e : u = v
        · rw [e] at g; exact absurd hb g
        · exact h4 u (by omega) g
    · have e : bestO x (v + 1) = match bestO x v with | none => some (leastV x v) | some b => if 0 < cmpR (leastV x v) b then some (leastV x v) else some b := by simp only [bestO]; rw [if_neg hb]; rfl
      rw [e]
      rcases ih (by omega) with ⟨h1, h2⟩ | ⟨u0, h1, h2, h3, h4⟩
      · rw [h1]
        refine .inr ⟨v, by omega, hb, rfl, fun u h g => ?_⟩
        by_cases e : u = v
        · rw [e]; unfold leF; exact Int.le_refl _
        · exact absurd (h2 u (by omega)) g
      · rw [h3]
        simp only
        by_cases hc : 0 < cmpR (leastV x v) (leastV x u0)
        · rw [if_pos hc]
          have hc1 := cmpR_gt.1 hc
          have hle : leF (leastV x u0) (leastV x v) := (leF.total _ _).resolve_right hc1
          refine .inr ⟨v, by omega, hb, rfl, fun u h g => ?_⟩
          by_cases e : u = v
          · rw [e]; unfold leF; exact Int.le_refl _
          · exact leF.trans (leastV_low (by omega)).1 (leastV_low (by omega)).1 (leastV_low hvl).1 (h4 u (by omega) g) hle
        · rw [if_neg hc]
          have hle : leF (leastV x v) (leastV x u0) := Classical.not_not.1 (fun h => hc (cmpR_gt.2 h))
          refine .inr ⟨u0, by omega, h2, rfl, fun u h g => ?_⟩
          by_cases e : u = v
          · rw [e]; exact hle
          · exact h4 u (by omega) g

/-- Karp's theorem for the table -/
theorem karp_best {x : List (List Int)} (hx : isSq x = true) {q p : Int} (hq : 0 < q) (hg : gcdI p q = 1) (hN : NoOver (ent x) x.length q p) {c : Nat} {t : List Nat} (hZ : Zc (ent x) x.length q p c t) : bestO x x.length = some (p, q) := by
  have hM : ∀ i j, ent x i j ≠ -1000000000000000 → -1000000 ≤ ent x i j ∧ ent x i j ≤ 1000000 := fun i j h => isSq_ebd1 hx h
  have hl := (isSq_rect hx).2
  have hD : ∀ k, k ≤ x.length → ∀ v, v < x.length → Top (WL (ent x) x.length k v) (tabE x k v) := fun k hk v hv => tab_top hx k (by omega) v hv
  obtain ⟨v1, hv1, hb1, hge⟩ := karp_ge hD hM (by omega) (by omega) hN hq hZ
  rcases best_spec x x.length (Nat.le_refl _) with ⟨_, h⟩ | ⟨u0, h1, h2, h3, h4⟩
  · exact absurd (h v1 hv1) hb1
  · rw [h3]
    congr 1
    -- not above
    obtain ⟨k, g1, g2, g3⟩ := karp_le hD hM (by omega) (by omega) hN hq h1 h2
    obtain ⟨k0, i1, i2, i3, i4⟩ := leastV_spec h1
    have hlow := leastV_low h1
    have a1 : leF (leastV x u0) (p, q) := by
      refine leF.trans hlow.1 (quoR_low x g1).2.1 hq (by rw [i3]; exact i4 k g1 g2) ?_
      refine leF.trans (b := (tabE x x.length u0 - tabE x k u0, (x.length : Int) - (k : Int))) (quoR_low x g1).2.1 (by simp only; omega) hq ?_ ?_
      · unfold leF; simp only; have := (quoR_low x (v := u0) g1).1; omega
      · unfold leF; simp only; rw [Int.mul_comm]; exact g3
    -- not below
    obtain ⟨k1, j1, j2, j3, j4⟩ := leastV_spec hv1
    have a2 : leF (p, q) (leastV x u0) := by
      refine leF.trans hq (leastV_low hv1).1 hlow.1 ?_ (h4 v1 hv1 hb1)
      rw [j3]
      refine leF.trans (b := (tabE x x.length v1 - tabE x k1 v1, (x.length : Int) - (k1 : Int))) hq (by simp only; omega) (quoR_low x j1).2.1 ?_ ?_
      · unfold leF; simp only; rw [Int.mul_comm _ q]; exact hge k1 j1 j2
      · unfold leF; simp only; have := (quoR_low x (v := v1) j1).1; omega
    refine low_eq hlow.1 hq hlow.2 hg ?_
    unfold leF at a1 a2
    simp only at a1 a2 ⊢
    omega
theorem none_best {x : List (List Int)} (hx : isSq x = true) (hC : ∀ c t, lo x.length (c :: t) → ¬ fk (ent x) (c :: (t ++ [c]))) : bestO x x.length = none := by
  have hM : ∀ i j, ent x i j ≠ -1000000000000000 → -1000000 ≤ ent x i j ∧ ent x i j ≤ 1000000 := fun i j h => isSq_ebd1 hx h
  have hl := (isSq_rect hx).2
  have hD : ∀ k, k ≤ x.length → ∀ v, v < x.length → Top (WL (ent x) x.length k v) (tabE x k v) := fun k hk v hv => tab_top hx k (by omega) v hv
  rcases best_spec x x.length (Nat.le_refl _) with ⟨h, _⟩ | ⟨u0, h1, h2, h3, h4⟩
  · exact h
  · exact absurd (karp_none hD hC h1) h2

/-- the list that the search grows: from f over the nodes of m, the last first -/
def castL (l : List Nat) : List Int := l.map fun v : Nat => (v : Int)
def pathL (f : Nat) (m : List Nat) : List Int := castL (f :: m.reverse)
theorem pathL_len (f : Nat) (m : List Nat) : (pathL f m).length = m.length + 1 := by simp [pathL, castL]
theorem pathL_snoc (f v : Nat) (m : List Nat) : pathL f (v :: m) = pathL f m ++ [(v : Int)] := by simp [pathL, castL]
theorem pathL_zero (f : Nat) (m : List Nat) : nth (pathL f m) 0 = (f : Int) := by simp [pathL, castL, nth]
theorem castL_nth {l : List Nat} {i : Nat} (h : i < l.length) : nth (castL l) i = (l[i] : Int) := by unfold nth castL; simp [h]
theorem pathL_last (f : Nat) (m : List Nat) : nth (pathL f m) m.length = ((m ++ [f]).headD 0 : Nat) := by
  cases m with
  | nil => simp [pathL, castL, nth]
  | cons v m =>
    rw [pathL_snoc]
    have := nth_app2 (xs := pathL f m) (y := (v : Int))
    rw [pathL_len] at this
    simpa using this
theorem pathL_node {n f : Nat} {m : List Nat} (h : lo n (f :: m)) : nodes n (pathL f m) = true := by
  rw [nodes_iff]
  intro i hi
  have hl : (f :: m.reverse).length = (pathL f m).length := by simp [pathL, castL]
  have e : nth (pathL f m) i = ((f :: m.reverse)[i]'(by rw [hl]; exact hi) : Int) := castL_nth _
  have hm : (f :: m.reverse)[i]'(by rw [hl]; exact hi) ∈ f :: m.reverse := List.getElem_mem _
  have : (f :: m.reverse)[i]'(by rw [hl]; exact hi) < n := h _ (by
    rcases List.mem_cons.1 hm with e | e
    · rw [e]; simp
    · exact List.mem_cons_of_mem _ (List.mem_reverse.1 e))
  rw [e]; omega
theorem pathL_once {f : Nat} {m : List Nat} (h : (f :: m).Nodup) : once (pathL f m) := by
  have hd : (f :: m.reverse).Nodup := by
    rw [List.nodup_cons] at h ⊢
    exact ⟨by simpa using h.1, ((List.reverse_perm m).nodup_iff).2 h.2⟩
  have hl : (f :: m.reverse).length = (pathL f m).length := by simp [pathL, castL]
  intro i hi
  refine has_no fun j hj => ?_
  have hj2 : j < i := by simp at hj; omega
  rw [nth_take hj2]
  have e1 : nth (pathL f m) i = ((f :: m.reverse)[i]'(by rw [hl]; exact hi) : Int) := castL_nth _
  have e2 : nth (pathL f m) j = ((f :: m.reverse)[j]'(by rw [hl]; omega) : Int) := castL_nth _
  rw [e1, e2]
  have := (List.pairwise_iff_getElem.1 hd) j i (by rw [hl]; omega) (by rw [hl]; exact hi) hj2
  omega
theorem walk_cast (x : List (List Int)) : ∀ (l : List Nat) (y : Nat), fk (ent x) (y :: l) →
    nth (castL (y :: l).reverse) l.length = (y : Int) ∧ (∀ i, i < l.length → arcW x (castL (y :: l).reverse) i ≠ -1000000000000000) ∧ sumTo (arcW x (castL (y :: l).reverse)) l.length = fw (ent x) (y :: l)
  | [], y, h => ⟨by simp [castL, nth], fun i hi => absurd hi (Nat.not_lt_zero _), rfl⟩
  | z :: l, y, h => by
    obtain ⟨h1, h2, h3⟩ := walk_cast x l z h.2
    have e : castL (y :: z :: l).reverse = castL (z :: l).reverse ++ [(y : Int)] := by simp [castL]
    have hl : (castL (z :: l).reverse).length = l.length + 1 := by simp [castL]
    have a1 : nth (castL (z :: l).reverse ++ [(y : Int)]) (l.length + 1) = (y : Int) := by
      have := nth_app2 (xs := castL (z :: l).reverse) (y := (y : Int))
      rwa [hl] at this
    have a2 : nth (castL (z :: l).reverse ++ [(y : Int)]) l.length = (z : Int) := by rw [nth_app1 (by omega)]; exact h1
    have a3 : arcW x (castL (z :: l).reverse ++ [(y : Int)]) l.length = ent x y z := by unfold arcW; rw [a1, a2]; rfl
    have a4 : ∀ i, i < l.length → arcW x (castL (z :: l).reverse ++ [(y : Int)]) i = arcW x (castL (z :: l).reverse) i := fun i hi => by
      unfold arcW; rw [nth_app1 (by omega), nth_app1 (by omega)]
    rw [e]
    simp only [List.length_cons]
    refine ⟨a1, fun i hi => ?_, ?_⟩
    · by_cases ei : i = l.length
      · rw [ei, a3]; exact h.1
      · rw [a4 i (by omega)]; exact h2 i (by omega)
    · simp only [sumTo]
      rw [a3, sumTo_congr a4, h3]
      show _ = ent x y z + fw (ent x) (z :: l)
      omega
/-- what the search finds is a cycle -/
theorem path_cycle {x : List (List Int)} {f : Nat} {m : List Nat} (hd : (f :: m).Nodup) (hlo : lo x.length (f :: m)) (hk : fk (ent x) (f :: (m ++ [f]))) : cycleO x (pathL f m) = some (fw (ent x) (f :: (m ++ [f]))) := by
  rw [cycle_good (by rw [pathL_len]; omega) (pathL_node hlo) (pathL_once hd)]
  unfold sCyc
  rw [pathL_zero]
  have e : pathL f m ++ [(f : Int)] = castL (f :: (m ++ [f])).reverse := by simp [pathL, castL]
  have hl : (pathL f m).length = (m ++ [f]).length := by rw [pathL_len]; simp
  obtain ⟨h1, h2, h3⟩ := walk_cast x (m ++ [f]) f hk
  rw [e, hl, walkO_all h2, h3]
end Go.Proofs.Ytljchmkoafahgaa
