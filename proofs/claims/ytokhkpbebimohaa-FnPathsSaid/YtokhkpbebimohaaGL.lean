/- Several texts in one: K5 K6 K7 K8 K9. -/
import Derived.Test.YtokhkpbebimohaaE12
import Derived.Test.YtokhkpbebimohaaGK
import Derived.Test.YtokhkpbebimohaaGP
import Derived.Test.YtokhkpbebimohaaGN
/- Plain law: the table mean is the greatest mean of a cycle; paths that the search grows are cycles. No program is entered. -/
namespace Go.Proofs.Ytokhkpbebimohaa
set_option linter.unusedVariables false

theorem tab_top {x : List (List Int)} (hx : isSq x = true) : ∀ k, k ≤ 100 → ∀ v, v < x.length → Top (WL (ent x) x.length k v) (tabE x k v) := by
  have hM : ∀ i j, ent x i j ≠ -1000000000000000 → -1000000 ≤ ent x i j ∧ ent x i j ≤ 1000000 := fun i j h => isSq_ebd1 hx h
  intro k
  induction k with
  | zero =>
    intro _ v hv
    have e : tabE x 0 v = 0 := by unfold tabE; simp only [tabR]; exact nth_replicate _ _ hv
    rw [e]
    exact .inr ⟨⟨[], rfl, lo_cons.2 ⟨hv, lo_nil _⟩, trivial, rfl⟩, fun s h => by
      obtain ⟨l, h1, h2, h3, h4⟩ := h
      have : l = [] := List.eq_nil_of_length_eq_zero h1
      subst this
      rw [← h4]; exact Int.le_refl _⟩
  | succ k ih =>
    intro hk v hv
    have e : tabE x (k + 1) v = mx x.length (fun t => times (ent x v t) (tabE x k t)) := by
      unfold tabE; simp only [tabR]; rw [mkRow_nth hv]; rfl
    have hms := mx_spec (n := x.length) (f := fun t => times (ent x v t) (tabE x k t))
    have hfin : ∀ t, t < x.length → ∀ s, WL (ent x) x.length k t s → tabE x k t ≠ -1000000000000000 ∧ s ≤ tabE x k t := fun t ht s h => by
      rcases ih (by omega) t ht with ⟨_, h1⟩ | ⟨h1, h2⟩
      · exact absurd h (h1 s)
      · have := h1.bd hM
        exact ⟨by omega, h2 s h⟩
    have hup : ∀ s, WL (ent x) x.length (k + 1) v s → s ≤ tabE x (k + 1) v := by
      intro s h
      obtain ⟨l, h1, h2, h3, h4⟩ := h
      cases l with
      | nil => simp at h1
      | cons y l =>
        simp only [List.length_cons, Nat.add_right_cancel_iff] at h1
        have hy := lo_cons.1 h2
        have hy2 := lo_cons.1 hy.2
        have h5 := hfin y hy2.1 _ ⟨l, h1, hy.2, h3.2, rfl⟩
        have h6 := hms.2 y hy2.1
        have et : times (ent x v y) (tabE x k y) = ent x v y + tabE x k y := by unfold times; rw [if_neg (by have := h3.1; have := h5.1; omega)]
        simp only [et] at h6
        have h7 : fw (ent x) (v :: y :: l) = ent x v y + fw (ent x) (y :: l) := rfl
        rw [e]; omega
    have hlow : ∀ s, WL (ent x) x.length (k + 1) v s → tabE x (k + 1) v ≠ -1000000000000000 := fun s h => by
      have := hup s h
      have := h.bd hM
      omega
    by_cases hb : tabE x (k + 1) v = -1000000000000000
    · exact .inl ⟨hb, fun s h => hlow s h hb⟩
    · refine .inr ⟨?_, hup⟩
      rw [e] at hb ⊢
      rcases hms.1 with e2 | ⟨t, ht, e2⟩
      · exact absurd e2 hb
      · rw [e2] at hb ⊢
        have hne : ¬ (ent x v t = -1000000000000000 ∨ tabE x k t = -1000000000000000) := fun h => hb (by unfold times; rw [if_pos h])
        have et : times (ent x v t) (tabE x k t) = ent x v t + tabE x k t := by unfold times; rw [if_neg hne]
        rw [et]
        rcases ih (by omega) t ht with ⟨h1, _⟩ | ⟨h1, _⟩
        · exact absurd (.inr h1) hne
        · obtain ⟨l, g1, g2, g3, g4⟩ := h1
          exact ⟨t :: l, by simp [g1], lo_cons.2 ⟨hv, g2⟩, ⟨fun h => hne (.inl h), g3⟩, by rw [← g4]; rfl⟩

theorem quoR_low (x : List (List Int)) {v k : Nat} (hk : k < x.length) : (quoR x v k).1 * ((x.length : Int) - (k : Int)) = (tabE x x.length v - tabE x k v) * (quoR x v k).2 ∧ 0 < (quoR x v k).2 ∧ gcdI (quoR x v k).1 (quoR x v k).2 = 1 :=
  ratOf_low (by omega)
theorem least_spec (x : List (List Int)) (v : Nat) : ∀ k, k ≤ x.length →
    (leastO x v k = none ∧ ∀ k1, k1 < k → tabE x k1 v = -1000000000000000) ∨
    ∃ k0, k0 < k ∧ tabE x k0 v ≠ -1000000000000000 ∧ leastO x v k = some (quoR x v k0) ∧ ∀ k1, k1 < k → tabE x k1 v ≠ -1000000000000000 → leF (quoR x v k0) (quoR x v k1) := by
  intro k
  induction k with
  | zero => intro _; exact .inl ⟨rfl, fun k1 h => absurd h (Nat.not_lt_zero _)⟩
  | succ k ih =>
    intro hk
    have hkl : k < x.length := by omega
    by_cases hb : tabE x k v = -1000000000000000
    · have e : leastO x v (k + 1) = leastO x v k := by simp only [leastO]; rw [if_pos hb]
      rw [e]
      rcases ih (by omega) with ⟨h1, h2⟩ | ⟨k0, h1, h2, h3, h4⟩
      · refine .inl ⟨h1, fun k1 h => ?_⟩
        by_cases e : k1 = k
        · rw [e]; exact hb
        · exact h2 k1 (by omega)
      · refine .inr ⟨k0, by omega, h2, h3, fun k1 h g => ?_⟩
        by_cases e : k1 = k
        · rw [e] at g; exact absurd hb g
        · exact h4 k1 (by omega) g
    · have e : leastO x v (k + 1) = match leastO x v k with | none => some (quoR x v k) | some l => if cmpR (quoR x v k) l < 0 then some (quoR x v k) else some l := by simp only [leastO]; rw [if_neg hb]; rfl
      rw [e]
      rcases ih (by omega) with ⟨h1, h2⟩ | ⟨k0, h1, h2, h3, h4⟩
      · rw [h1]
        refine .inr ⟨k, by omega, hb, rfl, fun k1 h g => ?_⟩
        by_cases e : k1 = k
        · rw [e]; unfold leF; exact Int.le_refl _
        · exact absurd (h2 k1 (by omega)) g
      · rw [h3]
        simp only
        by_cases hc : cmpR (quoR x v k) (quoR x v k0) < 0
        · rw [if_pos hc]
          have hc1 := cmpR_lt.1 hc
          have hle : leF (quoR x v k) (quoR x v k0) := (leF.total _ _).resolve_right hc1
          refine .inr ⟨k, by omega, hb, rfl, fun k1 h g => ?_⟩
          by_cases e : k1 = k
          · rw [e]; unfold leF; exact Int.le_refl _
          · exact leF.trans (quoR_low x hkl).2.1 (quoR_low x (by omega)).2.1 (quoR_low x (by omega)).2.1 hle (h4 k1 (by omega) g)
        · rw [if_neg hc]
          have hle : leF (quoR x v k0) (quoR x v k) := Classical.not_not.1 (fun h => hc (cmpR_lt.2 h))
          refine .inr ⟨k0, by omega, h2, rfl, fun k1 h g => ?_⟩
          by_cases e : k1 = k
          · rw [e]; exact hle
          · exact h4 k1 (by omega) g
/-- the least quotient at a node -/
def leastV (x : List (List Int)) (u : Nat) : Int × Int := (leastO x u x.length).getD (0, 0)
theorem leastV_spec {x : List (List Int)} {u : Nat} (hu : u < x.length) : ∃ k0, k0 < x.length ∧ tabE x k0 u ≠ -1000000000000000 ∧ leastV x u = quoR x u k0 ∧ ∀ k1, k1 < x.length → tabE x k1 u ≠ -1000000000000000 → leF (quoR x u k0) (quoR x u k1) := by
  have h0 : tabE x 0 u = 0 := by unfold tabE; simp only [tabR]; exact nth_replicate _ _ hu
  rcases least_spec x u x.length (Nat.le_refl _) with ⟨_, h⟩ | ⟨k0, h1, h2, h3, h4⟩
  · have := h 0 (by omega); omega
  · exact ⟨k0, h1, h2, by unfold leastV; rw [h3]; rfl, h4⟩
theorem leastV_low {x : List (List Int)} {u : Nat} (hu : u < x.length) : 0 < (leastV x u).2 ∧ gcdI (leastV x u).1 (leastV x u).2 = 1 := by
  obtain ⟨k0, h1, _, h3, _⟩ := leastV_spec hu
  rw [h3]; exact (quoR_low x h1).2
theorem best_spec (x : List (List Int)) : ∀ v, v ≤ x.length →
    (bestO x v = none ∧ ∀ u, u < v → tabE x x.length u = -1000000000000000) ∨
    ∃ u0, u0 < v ∧ tabE x x.length u0 ≠ -1000000000000000 ∧ bestO x v = some (leastV x u0) ∧ ∀ u, u < v → tabE x x.length u ≠ -1000000000000000 → leF (leastV x u) (leastV x u0) := by
  intro v
  induction v with
  | zero => intro _; exact .inl ⟨rfl, fun k1 h => absurd h (Nat.not_lt_zero _)⟩
  | succ v ih =>
    intro hv
    have hvl : v < x.length := by omega
    by_cases hb : tabE x x.length v = -1000000000000000
    · have e : bestO x (v + 1) = bestO x v := by simp only [bestO]; rw [if_pos hb]
      rw [e]
      rcases ih (by omega) with ⟨h1, h2⟩ | ⟨u0, h1, h2, h3, h4⟩
      · refine .inl ⟨h1, fun u h => ?_⟩
        by_cases e : u = v
        · rw [e]; exact hb
        · exact h2 u (by omega)
      · refine .inr ⟨u0, by omega, h2, h3, fun u h g => ?_⟩
        by_cases e : u = v
        · rw [e] at g; exact absurd hb g
        · exact h4 u (by omega) g
    · have e : bestO x (v + 1) = match bestO x v with | none => some (leastV x v) | some b => if 0 < cmpR (leastV x v) b then some (leastV x v) else some b := by simp only [bestO]; rw [if_neg hb]; rfl
      rw [e]
      rcases ih (by omega) with ⟨h1, h2⟩ | ⟨u0, h1, h2, h3, h4⟩
      · rw [h1]
        refine .inr ⟨v, by omega, hb, rfl, fun u h g => ?_⟩
        by_cases e : u = v
        · rw [e]; unfold leF; exact Int.le_refl _
        · exact absurd (h2 u (by omega)) g
      · rw [h3]
        simp only
        by_cases hc : 0 < cmpR (leastV x v) (leastV x u0)
        · rw [if_pos hc]
          have hc1 := cmpR_gt.1 hc
          have hle : leF (leastV x u0) (leastV x v) := (leF.total _ _).resolve_right hc1
          refine .inr ⟨v, by omega, hb, rfl, fun u h g => ?_⟩
          by_cases e : u = v
          · rw [e]; unfold leF; exact Int.le_refl _
          · exact leF.trans (leastV_low (by omega)).1 (leastV_low (by omega)).1 (leastV_low hvl).1 (h4 u (by omega) g) hle
        · rw [if_neg hc]
          have hle : leF (leastV x v) (leastV x u0) := Classical.not_not.1 (fun h => hc (cmpR_gt.2 h))
          refine .inr ⟨u0, by omega, h2, rfl, fun u h g => ?_⟩
          by_cases e : u = v
          · rw [e]; exact hle
          · exact h4 u (by omega) g

/-- Karp's theorem for the table -/
theorem karp_best {x : List (List Int)} (hx : isSq x = true) {q p : Int} (hq : 0 < q) (hg : gcdI p q = 1) (hN : NoOver (ent x) x.length q p) {c : Nat} {t : List Nat} (hZ : Zc (ent x) x.length q p c t) : bestO x x.length = some (p, q) := by
  have hM : ∀ i j, ent x i j ≠ -1000000000000000 → -1000000 ≤ ent x i j ∧ ent x i j ≤ 1000000 := fun i j h => isSq_ebd1 hx h
  have hl := (isSq_rect hx).2
  have hD : ∀ k, k ≤ x.length → ∀ v, v < x.length → Top (WL (ent x) x.length k v) (tabE x k v) := fun k hk v hv => tab_top hx k (by omega) v hv
  obtain ⟨v1, hv1, hb1, hge⟩ := karp_ge hD hM (by omega) (by omega) hN hq hZ
  rcases best_spec x x.length (Nat.le_refl _) with ⟨_, h⟩ | ⟨u0, h1, h2, h3, h4⟩
  · exact absurd (h v1 hv1) hb1
  · rw [h3]
    congr 1
    -- not above
    obtain ⟨k, g1, g2, g3⟩ := karp_le hD hM (by omega) (by omega) hN hq h1 h2
    obtain ⟨k0, i1, i2, i3, i4⟩ := leastV_spec h1
    have hlow := leastV_low h1
    have a1 : leF (leastV x u0) (p, q) := by
      refine leF.trans hlow.1 (quoR_low x g1).2.1 hq (by rw [i3]; exact i4 k g1 g2) ?_
      refine leF.trans (b := (tabE x x.length u0 - tabE x k u0, (x.length : Int) - (k : Int))) (quoR_low x g1).2.1 (by simp only; omega) hq ?_ ?_
      · unfold leF; simp only; have := (quoR_low x (v := u0) g1).1; omega
      · unfold leF; simp only; rw [Int.mul_comm]; exact g3
    -- not below
    obtain ⟨k1, j1, j2, j3, j4⟩ := leastV_spec hv1
    have a2 : leF (p, q) (leastV x u0) := by
      refine leF.trans hq (leastV_low hv1).1 hlow.1 ?_ (h4 v1 hv1 hb1)
      rw [j3]
      refine leF.trans (b := (tabE x x.length v1 - tabE x k1 v1, (x.length : Int) - (k1 : Int))) hq (by simp only; omega) (quoR_low x j1).2.1 ?_ ?_
      · unfold leF; simp only; rw [Int.mul_comm _ q]; exact hge k1 j1 j2
      · unfold leF; simp only; have := (quoR_low x (v := v1) j1).1; omega
    refine low_eq hlow.1 hq hlow.2 hg ?_
    unfold leF at a1 a2
    simp only at a1 a2 ⊢
    omega
theorem none_best {x : List (List Int)} (hx : isSq x = true) (hC : ∀ c t, lo x.length (c :: t) → ¬ fk (ent x) (c :: (t ++ [c]))) : bestO x x.length = none := by
  have hM : ∀ i j, ent x i j ≠ -1000000000000000 → -1000000 ≤ ent x i j ∧ ent x i j ≤ 1000000 := fun i j h => isSq_ebd1 hx h
  have hl := (isSq_rect hx).2
  have hD : ∀ k, k ≤ x.length → ∀ v, v < x.length → Top (WL (ent x) x.length k v) (tabE x k v) := fun k hk v hv => tab_top hx k (by omega) v hv
  rcases best_spec x x.length (Nat.le_refl _) with ⟨h, _⟩ | ⟨u0, h1, h2, h3, h4⟩
  · exact h
  · exact absurd (karp_none hD hC h1) h2

/-- the list that the search grows: from f over the nodes of m, the last first -/
def castL (l : List Nat) : List Int := l.map fun v : Nat => (v : Int)
def pathL (f : Nat) (m : List Nat) : List Int := castL (f :: m.reverse)
theorem pathL_len (f : Nat) (m : List Nat) : (pathL f m).length = m.length + 1 := by simp [pathL, castL]
theorem pathL_snoc (f v : Nat) (m : List Nat) : pathL f (v :: m) = pathL f m ++ [(v : Int)] := by simp [pathL, castL]
theorem pathL_zero (f : Nat) (m : List Nat) : nth (pathL f m) 0 = (f : Int) := by simp [pathL, castL, nth]
theorem castL_nth {l : List Nat} {i : Nat} (h : i < l.length) : nth (castL l) i = (l[i] : Int) := by unfold nth castL; simp [h]
theorem pathL_last (f : Nat) (m : List Nat) : nth (pathL f m) m.length = ((m ++ [f]).headD 0 : Nat) := by
  cases m with
  | nil => simp [pathL, castL, nth]
  | cons v m =>
    rw [pathL_snoc]
    have := nth_app2 (xs := pathL f m) (y := (v : Int))
    rw [pathL_len] at this
    simpa using this
theorem pathL_node {n f : Nat} {m : List Nat} (h : lo n (f :: m)) : nodes n (pathL f m) = true := by
  rw [nodes_iff]
  intro i hi
  have hl : (f :: m.reverse).length = (pathL f m).length := by simp [pathL, castL]
  have e : nth (pathL f m) i = ((f :: m.reverse)[i]'(by rw [hl]; exact hi) : Int) := castL_nth _
  have hm : (f :: m.reverse)[i]'(by rw [hl]; exact hi) ∈ f :: m.reverse := List.getElem_mem _
  have : (f :: m.reverse)[i]'(by rw [hl]; exact hi) < n := h _ (by
    rcases List.mem_cons.1 hm with e | e
    · rw [e]; simp
    · exact List.mem_cons_of_mem _ (List.mem_reverse.1 e))
  rw [e]; omega
theorem pathL_once {f : Nat} {m : List Nat} (h : (f :: m).Nodup) : once (pathL f m) := by
  have hd : (f :: m.reverse).Nodup := by
    rw [List.nodup_cons] at h ⊢
    exact ⟨by simpa using h.1, ((List.reverse_perm m).nodup_iff).2 h.2⟩
  have hl : (f :: m.reverse).length = (pathL f m).length := by simp [pathL, castL]
  intro i hi
  refine has_no fun j hj => ?_
  have hj2 : j < i := by simp at hj; omega
  rw [nth_take hj2]
  have e1 : nth (pathL f m) i = ((f :: m.reverse)[i]'(by rw [hl]; exact hi) : Int) := castL_nth _
  have e2 : nth (pathL f m) j = ((f :: m.reverse)[j]'(by rw [hl]; omega) : Int) := castL_nth _
  rw [e1, e2]
  have := (List.pairwise_iff_getElem.1 hd) j i (by rw [hl]; omega) (by rw [hl]; exact hi) hj2
  omega
theorem walk_cast (x : List (List Int)) : ∀ (l : List Nat) (y : Nat), fk (ent x) (y :: l) →
    nth (castL (y :: l).reverse) l.length = (y : Int) ∧ (∀ i, i < l.length → arcW x (castL (y :: l).reverse) i ≠ -1000000000000000) ∧ sumTo (arcW x (castL (y :: l).reverse)) l.length = fw (ent x) (y :: l)
  | [], y, h => ⟨by simp [castL, nth], fun i hi => absurd hi (Nat.not_lt_zero _), rfl⟩
  | z :: l, y, h => by
    obtain ⟨h1, h2, h3⟩ := walk_cast x l z h.2
    have e : castL (y :: z :: l).reverse = castL (z :: l).reverse ++ [(y : Int)] := by simp [castL]
    have hl : (castL (z :: l).reverse).length = l.length + 1 := by simp [castL]
    have a1 : nth (castL (z :: l).reverse ++ [(y : Int)]) (l.length + 1) = (y : Int) := by
      have := nth_app2 (xs := castL (z :: l).reverse) (y := (y : Int))
      rwa [hl] at this
    have a2 : nth (castL (z :: l).reverse ++ [(y : Int)]) l.length = (z : Int) := by rw [nth_app1 (by omega)]; exact h1
    have a3 : arcW x (castL (z :: l).reverse ++ [(y : Int)]) l.length = ent x y z := by unfold arcW; rw [a1, a2]; rfl
    have a4 : ∀ i, i < l.length → arcW x (castL (z :: l).reverse ++ [(y : Int)]) i = arcW x (castL (z :: l).reverse) i := fun i hi => by
      unfold arcW; rw [nth_app1 (by omega), nth_app1 (by omega)]
    rw [e]
    simp only [List.length_cons]
    refine ⟨a1, fun i hi => ?_, ?_⟩
    · by_cases ei : i = l.length
      · rw [ei, a3]; exact h.1
      · rw [a4 i (by omega)]; exact h2 i (by omega)
    · simp only [sumTo]
      rw [a3, sumTo_congr a4, h3]
      show _ = ent x y z + fw (ent x) (z :: l)
      omega
/-- what the search finds is a cycle -/
theorem path_cycle {x : List (List Int)} {f : Nat} {m : List Nat} (hd : (f :: m).Nodup) (hlo : lo x.length (f :: m)) (hk : fk (ent x) (f :: (m ++ [f]))) : cycleO x (pathL f m) = some (fw (ent x) (f :: (m ++ [f]))) := by
  rw [cycle_good (by rw [pathL_len]; omega) (pathL_node hlo) (pathL_once hd)]
  unfold sCyc
  rw [pathL_zero]
  have e : pathL f m ++ [(f : Int)] = castL (f :: (m ++ [f])).reverse := by simp [pathL, castL]
  have hl : (pathL f m).length = (m ++ [f]).length := by rw [pathL_len]; simp
  obtain ⟨h1, h2, h3⟩ := walk_cast x (m ++ [f]) f hk
  rw [e, hl, walkO_all h2, h3]
end Go.Proofs.Ytokhkpbebimohaa

/- Plain law: the search for the greatest mean: what one step of it shows. No program is entered. -/
namespace Go.Proofs.Ytokhkpbebimohaa
set_option linter.unusedVariables false

/-- a square table that the search goes through -/
structure YOk (y : List (List Int)) (n : Nat) : Prop where
  rect : Rect y n n
  lo : 1 ≤ n
  hi : n ≤ 10
  bd : ∀ i j, ent y i j ≠ -1000000000000000 → -2000000000000 ≤ ent y i j ∧ ent y i j ≤ 2000000000000
theorem YOk.of_sq {x : List (List Int)} (h : isSq x = true) : YOk x x.length :=
  ⟨(isSq_rect h).1, (isSq_rect h).2.1, (isSq_rect h).2.2, fun i j hne => by have := isSq_ebd1 h hne; omega⟩
theorem shiftE_ne {x : List (List Int)} (h : isSq x = true) {num den : Int} (hn : -100000000 ≤ num ∧ num ≤ 100000000) (hd : -1000000 ≤ den ∧ den ≤ 1000000) {i j : Nat} :
    (shiftE x num den i j ≠ -1000000000000000 ↔ ent x i j ≠ -1000000000000000) ∧ (shiftE x num den i j ≠ -1000000000000000 → (-2000000000000 ≤ shiftE x num den i j ∧ shiftE x num den i j ≤ 2000000000000) ∧ shiftE x num den i j = den * ent x i j - num) := by
  unfold shiftE
  by_cases e : ent x i j = -1000000000000000
  · rw [if_pos e]; exact ⟨⟨fun h => absurd rfl h, fun h => absurd e h⟩, fun h => absurd rfl h⟩
  · rw [if_neg e]
    have h1 := isSq_ebd1 h e
    have h2 := mul_bd hd h1
    exact ⟨⟨fun _ => e, fun _ => by omega⟩, fun _ => ⟨by omega, rfl⟩⟩
theorem YOk.of_shift {x : List (List Int)} (h : isSq x = true) {num den : Int} (hn : -100000000 ≤ num ∧ num ≤ 100000000) (hd : -1000000 ≤ den ∧ den ≤ 1000000) : YOk (shiftM x num den) x.length :=
  ⟨rect_mk _ _ _, (isSq_rect h).2.1, (isSq_rect h).2.2, fun i j hne => by
    by_cases e : i < x.length ∧ j < x.length
    · unfold shiftM at hne ⊢
      rw [mkMat_ent e.1 e.2] at hne ⊢
      exact ((shiftE_ne h hn hd).2 hne).1
    · unfold shiftM; rw [ent_out (rect_mk _ _ _) e]; omega⟩
theorem shift_walk {x : List (List Int)} (h : isSq x = true) {num den : Int} (hn : -100000000 ≤ num ∧ num ≤ 100000000) (hd : -1000000 ≤ den ∧ den ≤ 1000000) : ∀ (l : List Nat) (v : Nat), lo x.length (v :: l) →
    (fk (ent (shiftM x num den)) (v :: l) ↔ fk (ent x) (v :: l)) ∧ (fk (ent x) (v :: l) → fw (ent (shiftM x num den)) (v :: l) = den * fw (ent x) (v :: l) - num * (l.length : Int))
  | [], v, hl => ⟨Iff.rfl, fun _ => by show (0 : Int) = den * 0 - num * ((0 : Nat) : Int); simp⟩
  | z :: l, v, hl => by
    have h1 := lo_cons.1 hl
    have h2 := lo_cons.1 h1.2
    have ih := shift_walk h hn hd l z h1.2
    have e : ent (shiftM x num den) v z = shiftE x num den v z := by unfold shiftM; exact mkMat_ent h1.1 h2.1
    have hs := shiftE_ne h hn hd (i := v) (j := z)
    refine ⟨?_, fun hk => ?_⟩
    · show (ent (shiftM x num den) v z ≠ _ ∧ _) ↔ (ent x v z ≠ _ ∧ _)
      rw [e, hs.1, ih.1]
    · show ent (shiftM x num den) v z + fw (ent (shiftM x num den)) (z :: l) = den * (ent x v z + fw (ent x) (z :: l)) - num * ((l.length + 1 : Nat) : Int)
      rw [e, (hs.2 (hs.1.2 hk.1)).2, ih.2 hk.2, Int.mul_add, show ((l.length + 1 : Nat) : Int) = (l.length : Int) + 1 by omega, Int.mul_add, Int.mul_one]
      omega

/-- a cycle as the search writes it -/
structure Cy (A : Nat → Nat → Int) (n f : Nat) (m : List Nat) : Prop where
  nd : (f :: m).Nodup
  lo : lo n (f :: m)
  lt : ∀ u ∈ m, f < u
  fk : fk A (f :: (m ++ [f]))
def cw (A : Nat → Nat → Int) (f : Nat) (m : List Nat) : Int := fw A (f :: (m ++ [f]))
/-- what the search hands back -/
def Found (A : Nat → Nat → Int) (n : Nat) (over : Int) (out : List Int) : Prop := ∃ f m, out = pathL f m ∧ Cy A n f m ∧ over < cw A f m
def OverPost (A : Nat → Nat → Int) (n : Nat) (over : Int) (out : List Int) : Prop := (out = [] ∧ ∀ f m, Cy A n f m → cw A f m ≤ over) ∨ Found A n over out
/-- what is left to be searched from a path -/
def Beyond (A : Nat → Nat → Int) (n f : Nat) (m : List Nat) (over : Int) : Prop := ∀ s, Cy A n f (s ++ m) → cw A f (s ++ m) ≤ over
def GrowPost (A : Nat → Nat → Int) (n f : Nat) (m : List Nat) (over : Int) (out : List Int) : Prop := (out = [] ∧ Beyond A n f m over) ∨ Found A n over out
theorem Found.ne {A : Nat → Nat → Int} {n : Nat} {over : Int} {out : List Int} (h : Found A n over out) : 0 < out.length := by
  obtain ⟨f, m, rfl, _⟩ := h; rw [pathL_len]; omega
theorem Found.len {A : Nat → Nat → Int} {n : Nat} {over : Int} {out : List Int} (h : Found A n over out) : out.length ≤ n := by
  obtain ⟨f, m, rfl, h1, _⟩ := h
  have := nodup_len n _ h1.nd h1.lo
  rw [pathL_len]; simpa using this
theorem Cy.len {A : Nat → Nat → Int} {n f : Nat} {m : List Nat} (h : Cy A n f m) : m.length + 1 ≤ n := by have := nodup_len n _ h.nd h.lo; simpa using this

theorem cw_bd {x : List (List Int)} (h : isSq x = true) {f : Nat} {m : List Nat} (hc : Cy (ent x) x.length f m) : -1000000 * ((m.length : Int) + 1) ≤ cw (ent x) f m ∧ cw (ent x) f m ≤ 1000000 * ((m.length : Int) + 1) := by
  have := fwl_bd (A := ent x) (fun i j hne => isSq_ebd1 h hne) (m ++ [f]) f hc.fk
  simp only [List.length_append, List.length_cons, List.length_nil] at this
  unfold cw; omega
/-- no cycle at all -/
theorem over_none {x : List (List Int)} (h : isSq x = true) (hp : ∀ f m, Cy (ent x) x.length f m → cw (ent x) f m ≤ -1000000000000000) : bestO x x.length = none := by
  refine none_best h fun c t h1 h2 => ?_
  obtain ⟨z, m, g1, g2, g3, g4, g5⟩ := simple_cycle (q := 0) (p := -1) t.length c t (Nat.le_refl _) h1 h2 (by omega)
  have hc : Cy (ent x) x.length z m := ⟨g1, g2, g3, g4⟩
  have h3 := hp z m hc
  have h4 := cw_bd h hc
  have := hc.len
  have := (isSq_rect h).2.2
  omega
theorem ratOf_sm2 {a b : Int} (ha : -100000000 ≤ a ∧ a ≤ 100000000) (hb : 0 < b ∧ b ≤ 1000000) : (-100000000 ≤ (ratOf a b).1 ∧ (ratOf a b).1 ≤ 100000000) ∧ (-1000000 ≤ (ratOf a b).2 ∧ (ratOf a b).2 ≤ 1000000) := by
  have hs : sgnR a b = (a, b) := by unfold sgnR; rw [if_neg (by omega)]
  unfold ratOf
  rw [hs]
  simp only
  exact ⟨tdiv_bd (a := a) (b := gcdI a b) ha, tdiv_bd (a := b) (b := gcdI a b) (A := 1000000) (by omega)⟩
/-- the mean of such a cycle -/
def mn (A : Nat → Nat → Int) (f : Nat) (m : List Nat) : Int × Int := ratOf (cw A f m) ((m.length : Int) + 1)
section
variable {x : List (List Int)} (h : isSq x = true) {f : Nat} {m : List Nat} (hc : Cy (ent x) x.length f m)
include h hc
theorem mn_bd : (-100000000 ≤ (mn (ent x) f m).1 ∧ (mn (ent x) f m).1 ≤ 100000000) ∧ (-1000000 ≤ (mn (ent x) f m).2 ∧ (mn (ent x) f m).2 ≤ 1000000) := by
  have h1 := cw_bd h hc
  have h2 := hc.len
  have h3 := (isSq_rect h).2.2
  exact ratOf_sm2 (by omega) (by omega)
omit h in
theorem mn_cycle : cycleO x (pathL f m) = some (cw (ent x) f m) := path_cycle hc.nd hc.lo hc.fk
/-- how a cycle weighs when it is shifted by the mean of another one -/
theorem cw_shift {g : Nat} {k : List Nat} (hl : lo x.length (g :: k)) : (Cy (ent (shiftM x (mn (ent x) f m).1 (mn (ent x) f m).2)) x.length g k ↔ Cy (ent x) x.length g k) ∧
    (fk (ent x) (g :: (k ++ [g])) → cw (ent (shiftM x (mn (ent x) f m).1 (mn (ent x) f m).2)) g k = (mn (ent x) f m).2 * cw (ent x) g k - (mn (ent x) f m).1 * ((k.length : Int) + 1)) := by
  have hb := mn_bd h hc
  have hl2 : lo x.length (g :: (k ++ [g])) := fun y hy => hl y (by
    simp only [List.mem_cons, List.mem_append, List.not_mem_nil, or_false] at hy ⊢
    rcases hy with h | h | h
    · exact .inl h
    · exact .inr h
    · exact .inl h)
  have hw := shift_walk h hb.1 hb.2 (k ++ [g]) g hl2
  refine ⟨⟨fun c => ⟨c.nd, c.lo, c.lt, hw.1.1 c.fk⟩, fun c => ⟨c.nd, c.lo, c.lt, hw.1.2 c.fk⟩⟩, fun hk => ?_⟩
  unfold cw
  rw [hw.2 hk]
  simp
omit h hc in
theorem mn_zero : (mn (ent x) f m).1 * ((m.length : Int) + 1) = cw (ent x) f m * (mn (ent x) f m).2 ∧ 0 < (mn (ent x) f m).2 ∧ gcdI (mn (ent x) f m).1 (mn (ent x) f m).2 = 1 := ratOf_low (by omega)
/-- nothing above the mean: it is the greatest -/
theorem best_of_none (hp : ∀ g k, Cy (ent (shiftM x (mn (ent x) f m).1 (mn (ent x) f m).2)) x.length g k → cw (ent (shiftM x (mn (ent x) f m).1 (mn (ent x) f m).2)) g k ≤ 0) : bestO x x.length = some (mn (ent x) f m) := by
  obtain ⟨z1, z2, z3⟩ := mn_zero (x := x) (f := f) (m := m)
  have hN : NoOver (ent x) x.length (mn (ent x) f m).2 (mn (ent x) f m).1 := by
    intro c t h1 h2
    refine Classical.byContradiction fun hcon => ?_
    obtain ⟨z, k, g1, g2, g3, g4, g5⟩ := simple_cycle t.length c t (Nat.le_refl _) h1 h2 (Int.not_le.1 hcon)
    have hcy : Cy (ent x) x.length z k := ⟨g1, g2, g3, g4⟩
    have hsh := cw_shift h hc hcy.lo
    have h3 := hp z k (hsh.1.2 hcy)
    rw [hsh.2 g4] at h3
    unfold cw at h3
    omega
  refine karp_best h z2 z3 hN (c := f) (t := m) ⟨hc.lo, hc.fk, ?_⟩
  unfold cw at z1
  rw [Int.mul_comm]; exact z1.symm
/-- a cycle that weighs nothing when shifted has the same mean -/
theorem mn_same {g : Nat} {k : List Nat} (hk : Cy (ent x) x.length g k) (h0 : cw (ent (shiftM x (mn (ent x) f m).1 (mn (ent x) f m).2)) g k = 0) : mn (ent x) g k = mn (ent x) f m := by
  obtain ⟨z1, z2, z3⟩ := mn_zero (x := x) (f := f) (m := m)
  obtain ⟨y1, y2, y3⟩ := mn_zero (x := x) (f := g) (m := k)
  rw [(cw_shift h hc hk.lo).2 hk.fk] at h0
  refine low_eq y2 z2 y3 z3 ?_
  have hL : (0 : Int) < (k.length : Int) + 1 := by omega
  refine Int.eq_of_mul_eq_mul_right (a := (k.length : Int) + 1) (by omega) ?_
  have e1 : (mn (ent x) g k).1 * (mn (ent x) f m).2 * ((k.length : Int) + 1) = (mn (ent x) f m).2 * ((mn (ent x) g k).1 * ((k.length : Int) + 1)) := by rw [Int.mul_comm _ (mn (ent x) f m).2, Int.mul_assoc]
  have e2 : (mn (ent x) f m).1 * (mn (ent x) g k).2 * ((k.length : Int) + 1) = (mn (ent x) g k).2 * ((mn (ent x) f m).1 * ((k.length : Int) + 1)) := by rw [Int.mul_comm _ (mn (ent x) g k).2, Int.mul_assoc]
  rw [e1, e2, y1]
  have e3 : (mn (ent x) f m).1 * ((k.length : Int) + 1) = (mn (ent x) f m).2 * cw (ent x) g k := by omega
  rw [e3]
  rw [Int.mul_comm (cw (ent x) g k), ← Int.mul_assoc, ← Int.mul_assoc, Int.mul_comm (mn (ent x) f m).2]
theorem mn_self : cw (ent (shiftM x (mn (ent x) f m).1 (mn (ent x) f m).2)) f m = 0 := by
  obtain ⟨z1, z2, z3⟩ := mn_zero (x := x) (f := f) (m := m)
  rw [(cw_shift h hc hc.lo).2 hc.fk, z1, Int.mul_comm]; omega
/-- the measure of the search -/
def zM (w : Int) (len : Int) : Int := w * (2520 / len)
omit hc in
theorem zM_inc {g : Nat} {k : List Nat} (hf : Cy (ent x) x.length f m) (hk : Cy (ent x) x.length g k) (h0 : 0 < cw (ent (shiftM x (mn (ent x) f m).1 (mn (ent x) f m).2)) g k) :
    zM (cw (ent x) f m) ((m.length : Int) + 1) < zM (cw (ent x) g k) ((k.length : Int) + 1) ∧ zM (cw (ent x) g k) ((k.length : Int) + 1) ≤ 2520000000 := by
  obtain ⟨z1, z2, z3⟩ := mn_zero (x := x) (f := f) (m := m)
  rw [(cw_shift h hf hk.lo).2 hk.fk] at h0
  have b1 := cw_bd h hk
  have l1 := hf.len
  have l2 := hk.len
  have l3 := (isSq_rect h).2.2
  generalize mn (ent x) f m = r at *
  have h1 : cw (ent x) f m * ((k.length : Int) + 1) < cw (ent x) g k * ((m.length : Int) + 1) := by
    refine Int.lt_of_mul_lt_mul_left (a := r.2) ?_ (Int.le_of_lt z2)
    have e1 : r.2 * (cw (ent x) f m * ((k.length : Int) + 1)) = (r.1 * ((k.length : Int) + 1)) * ((m.length : Int) + 1) := by
      rw [← Int.mul_assoc, Int.mul_comm r.2, ← z1, Int.mul_assoc, Int.mul_assoc, Int.mul_comm ((m.length : Int) + 1)]
    have e2 : r.2 * (cw (ent x) g k * ((m.length : Int) + 1)) = (r.2 * cw (ent x) g k) * ((m.length : Int) + 1) := by rw [Int.mul_assoc]
    rw [e1, e2]
    exact Int.mul_lt_mul_of_pos_right (by omega) (by omega)
  generalize cw (ent x) f m = a at *
  generalize cw (ent x) g k = b at *
  have hk1 : (k.length : Int) + 1 = 1 ∨ (k.length : Int) + 1 = 2 ∨ (k.length : Int) + 1 = 3 ∨ (k.length : Int) + 1 = 4 ∨ (k.length : Int) + 1 = 5 ∨ (k.length : Int) + 1 = 6 ∨ (k.length : Int) + 1 = 7 ∨ (k.length : Int) + 1 = 8 ∨ (k.length : Int) + 1 = 9 ∨ (k.length : Int) + 1 = 10 := by omega
  have hm1 : (m.length : Int) + 1 = 1 ∨ (m.length : Int) + 1 = 2 ∨ (m.length : Int) + 1 = 3 ∨ (m.length : Int) + 1 = 4 ∨ (m.length : Int) + 1 = 5 ∨ (m.length : Int) + 1 = 6 ∨ (m.length : Int) + 1 = 7 ∨ (m.length : Int) + 1 = 8 ∨ (m.length : Int) + 1 = 9 ∨ (m.length : Int) + 1 = 10 := by omega
  clear z1 h0 l1 l2
  generalize (k.length : Int) + 1 = K at *
  generalize (m.length : Int) + 1 = M at *
  unfold zM
  rcases hk1 with rfl | rfl | rfl | rfl | rfl | rfl | rfl | rfl | rfl | rfl <;> rcases hm1 with rfl | rfl | rfl | rfl | rfl | rfl | rfl | rfl | rfl | rfl <;> omega
end
end Go.Proofs.Ytokhkpbebimohaa

/- Plain law: there is a greatest mean of a cycle, or no cycle at all; a matrix shifted by the greatest mean has no positive closed walk. No program is entered. -/
namespace Go.Proofs.Ytokhkpbebimohaa
set_option linter.unusedVariables false

theorem wt_fw (A : Nat → Nat → Int) : ∀ (m : List Nat) (i j : Nat), wt A i m j = fw A (i :: (m ++ [j]))
  | [], i, j => by show A i j = A i j + 0; omega
  | k :: m, i, j => by
    have ih := wt_fw A m k j
    simp only [wt, List.cons_append]
    show _ = A i k + fw A (k :: (m ++ [j]))
    rw [ih]
theorem wk_fk (A : Nat → Nat → Int) : ∀ (m : List Nat) (i j : Nat), wk A i m j ↔ fk A (i :: (m ++ [j]))
  | [], i, j => by show A i j ≠ _ ↔ (A i j ≠ _ ∧ True); exact (and_true _).symm ▸ Iff.rfl
  | k :: m, i, j => by
    have ih := wk_fk A m k j
    simp only [wk, List.cons_append]
    show _ ↔ (A i k ≠ _ ∧ fk A (k :: (m ++ [j])))
    rw [ih]

theorem best_ex {x : List (List Int)} (h : isSq x = true) : (bestO x x.length = none ∧ ∀ f m, ¬ Cy (ent x) x.length f m) ∨
    ∃ f m, Cy (ent x) x.length f m ∧ bestO x x.length = some (mn (ent x) f m) ∧ ∀ g k, Cy (ent (shiftM x (mn (ent x) f m).1 (mn (ent x) f m).2)) x.length g k → cw (ent (shiftM x (mn (ent x) f m).1 (mn (ent x) f m).2)) g k ≤ 0 := by
  by_cases hex : ∃ f m, Cy (ent x) x.length f m
  · right
    obtain ⟨f, m, hc⟩ := hex
    have key : ∀ (N : Nat) (f : Nat) (m : List Nat), Cy (ent x) x.length f m → 2520000000 - zM (cw (ent x) f m) ((m.length : Int) + 1) ≤ (N : Int) →
        ∃ f m, Cy (ent x) x.length f m ∧ bestO x x.length = some (mn (ent x) f m) ∧ ∀ g k, Cy (ent (shiftM x (mn (ent x) f m).1 (mn (ent x) f m).2)) x.length g k → cw (ent (shiftM x (mn (ent x) f m).1 (mn (ent x) f m).2)) g k ≤ 0 := by
      intro N
      induction N with
      | zero =>
        intro f m hc hN
        have hno : ∀ g k, Cy (ent (shiftM x (mn (ent x) f m).1 (mn (ent x) f m).2)) x.length g k → cw (ent (shiftM x (mn (ent x) f m).1 (mn (ent x) f m).2)) g k ≤ 0 := fun g k hk => by
          refine Classical.byContradiction fun hcon => ?_
          have := zM_inc h hc ((cw_shift h hc hk.lo).1.1 hk) (by omega)
          omega
        exact ⟨f, m, hc, best_of_none h hc hno, hno⟩
      | succ N ih =>
        intro f m hc hN
        by_cases hno : ∀ g k, Cy (ent (shiftM x (mn (ent x) f m).1 (mn (ent x) f m).2)) x.length g k → cw (ent (shiftM x (mn (ent x) f m).1 (mn (ent x) f m).2)) g k ≤ 0
        · exact ⟨f, m, hc, best_of_none h hc hno, hno⟩
        · obtain ⟨g, hg⟩ := Classical.not_forall.1 hno
          obtain ⟨k, hg⟩ := Classical.not_forall.1 hg
          obtain ⟨hk, hg⟩ := Classical.not_imp.1 hg
          have hk' := (cw_shift h hc hk.lo).1.1 hk
          have := zM_inc h hc hk' (by omega)
          exact ih g k hk' (by omega)
    exact key (2520000000 - zM (cw (ent x) f m) ((m.length : Int) + 1)).toNat f m hc (by omega)
  · left
    have hn : ∀ f m, ¬ Cy (ent x) x.length f m := fun f m hc => hex ⟨f, m, hc⟩
    exact ⟨over_none h fun f m hc => absurd hc (hn f m), hn⟩

/-- the ratio's bounds, and no positive closed walk in the matrix shifted by it -/
theorem best_facts {x : List (List Int)} (h : isSq x = true) {R : Int × Int} (hb : bestO x x.length = some R) :
    ((-100000000 ≤ R.1 ∧ R.1 ≤ 100000000) ∧ (1 ≤ R.2 ∧ R.2 ≤ 1000000)) ∧ NoPos (ent (shiftM x R.1 R.2)) x.length ∧ ∃ f m, Cy (ent x) x.length f m ∧ mn (ent x) f m = R := by
  rcases best_ex h with ⟨h1, _⟩ | ⟨f, m, hc, h2, hno⟩
  · rw [h1] at hb; cases hb
  · rw [h2] at hb
    simp only [Option.some.injEq] at hb
    subst hb
    have b := mn_bd h hc
    have z := (mn_zero (x := x) (f := f) (m := m)).2.1
    refine ⟨⟨b.1, by omega⟩, fun v k hv hk hw => ?_, f, m, hc, rfl⟩
    rw [wk_fk] at hw
    refine Classical.byContradiction fun hcon => ?_
    rw [wt_fw] at hcon
    obtain ⟨z, k2, g1, g2, g3, g4, g5⟩ := simple_cycle (A := ent (shiftM x (mn (ent x) f m).1 (mn (ent x) f m).2)) (n := x.length) (q := 1) (p := 0) k.length v k (Nat.le_refl _) (lo_cons.2 ⟨hv, hk⟩) hw (by omega)
    have := hno z k2 ⟨g1, g2, g3, g4⟩
    unfold cw at this
    omega
theorem shift_abdW {x : List (List Int)} (h : isSq x = true) {num den : Int} (hn : -100000000 ≤ num ∧ num ≤ 100000000) (hd : -1000000 ≤ den ∧ den ≤ 1000000) : ABd (ent (shiftM x num den)) x.length 2000000000000 := by
  have hl := isSq_rect h
  exact ⟨by omega, fun i j hne => by have := (YOk.of_shift h hn hd).bd i j hne; omega, by omega⟩
theorem best_star {x : List (List Int)} (h : isSq x = true) {R : Int × Int} (hb : bestO x x.length = some R) : starB (ent (shiftM x R.1 R.2)) x.length = true := by
  obtain ⟨⟨b1, b2⟩, hN, _⟩ := best_facts h hb
  exact star_of_NoPos (shift_abdW h b1 (by omega)) hN
end Go.Proofs.Ytokhkpbebimohaa

/- Plain law: an arc is critical exactly if it lies on a closed walk that weighs nothing; the components of the critical arcs. No program is entered. -/
namespace Go.Proofs.Ytokhkpbebimohaa
set_option linter.unusedVariables false

/-- is the entry of row i and column j critical: in the shifted matrix b with the star s -/
def keepB (b s : List (List Int)) (i j : Nat) : Bool := !(ent b i j == -1000000000000000) && !(ent s j i == -1000000000000000) && (ent b i j + ent s j i == 0)
theorem keepB_iff {b s : List (List Int)} {i j : Nat} : keepB b s i j = true ↔ ent b i j ≠ -1000000000000000 ∧ ent s j i ≠ -1000000000000000 ∧ ent b i j + ent s j i = 0 := by
  unfold keepB
  rw [Bool.and_eq_true, Bool.and_eq_true, Bool.not_eq_true', Bool.not_eq_true', beq_eq_false_iff_ne, beq_eq_false_iff_ne, beq_iff_eq, and_assoc]
def critE (x : List (List Int)) (R : Int × Int) (i j : Nat) : Int :=
  if keepB (shiftM x R.1 R.2) (starM (shiftM x R.1 R.2) x.length) i j then ent x i j else -1000000000000000
def critM (x : List (List Int)) (R : Int × Int) : List (List Int) := mkMat x.length x.length (critE x R)
theorem critM_ent {x : List (List Int)} {R : Int × Int} {i j : Nat} (hi : i < x.length) (hj : j < x.length) : ent (critM x R) i j = critE x R i j := mkMat_ent hi hj
theorem critM_len (x : List (List Int)) (R : Int × Int) : (critM x R).length = x.length := mkMat_len _ _ _

section
variable {x : List (List Int)} (h : isSq x = true) {R : Int × Int} (hb : bestO x x.length = some R)
include h hb
omit hb in
theorem crit_sq : isSq (critM x R) = true := by
  have hr := isSq_rect h
  have hv : isMat (critM x R) = true := by
    unfold critM
    rw [isMat_mk _ hr.2.1 hr.2.2 hr.2.1 hr.2.2]
    unfold allM
    rw [all_iff_row]; intro i hi
    rw [mkMat_len] at hi
    rw [mkMat_row hi, allV_iff]; intro j hj
    rw [mkRow_len] at hj
    rw [mkRow_nth hj]
    unfold critE
    split
    · exact isSq_val h hi hj
    · decide
  have h0 : (row (critM x R) 0).length = (critM x R).length := by
    rw [critM_len]; unfold critM; rw [mkMat_row (by omega), mkRow_len]
  unfold isSq; rw [hv, h0]; simp
theorem keep_walk {i j : Nat} (hi : i < x.length) (hj : j < x.length) :
    keepB (shiftM x R.1 R.2) (starM (shiftM x R.1 R.2) x.length) i j = true ↔ ∃ m, lo x.length m ∧ wk (ent (shiftM x R.1 R.2)) i (j :: m) i ∧ wt (ent (shiftM x R.1 R.2)) i (j :: m) i = 0 := by
  obtain ⟨⟨b1, b2⟩, hN, _⟩ := best_facts h hb
  have hA := shift_abdW h b1 (den := R.2) (by omega)
  have hS := star_isStar hA (best_star h hb) j i hj hi
  have he : ent (starM (shiftM x R.1 R.2) x.length) j i = fwS (ent (shiftM x R.1 R.2)) x.length j i := mkMat_ent hj hi
  rw [keepB_iff, he]
  generalize fwS (ent (shiftM x R.1 R.2)) x.length j i = S at *
  generalize hB : ent (shiftM x R.1 R.2) = B at *
  constructor
  · rintro ⟨h1, h2, h3⟩
    rcases hS with ⟨e, _⟩ | ⟨hw, _⟩
    · exact absurd e h2
    · rcases hw with ⟨rfl, e⟩ | ⟨m, m1, m2, m3⟩
      · exact ⟨[], lo_nil _, ⟨h1, h1⟩, by show B j j + B j j = 0; omega⟩
      · exact ⟨m, m1, ⟨h1, m2⟩, by show B i j + wt B j m i = 0; omega⟩
  · rintro ⟨m, m1, m2, m3⟩
    have hw : WP B x.length j i (wt B j m i) := .inr ⟨m, m1, m2.2, rfl⟩
    have m3' : B i j + wt B j m i = 0 := m3
    rcases hS with ⟨_, hno⟩ | ⟨ha, hmx⟩
    · exact absurd hw (hno _)
    · have h1 := hmx _ hw
      have h2 : B i j + S ≤ 0 := by
        rcases ha with ⟨rfl, e⟩ | ⟨m', n1, n2, n3⟩
        · have := hN j [] hi (lo_nil _) m2.1
          have : B j j ≤ 0 := this
          omega
        · have := hN i (j :: m') hi (lo_cons.2 ⟨hj, n1⟩) ⟨m2.1, n2⟩
          have : B i j + wt B j m' i ≤ 0 := this
          omega
      have hbd := hA.bd i j m2.1
      exact ⟨m2.1, by omega, by omega⟩
theorem crit_ne {i j : Nat} (hi : i < x.length) (hj : j < x.length) : ent (critM x R) i j ≠ -1000000000000000 ↔ keepB (shiftM x R.1 R.2) (starM (shiftM x R.1 R.2) x.length) i j = true := by
  obtain ⟨⟨b1, b2⟩, hN, _⟩ := best_facts h hb
  rw [critM_ent hi hj]
  unfold critE
  by_cases hk : keepB (shiftM x R.1 R.2) (starM (shiftM x R.1 R.2) x.length) i j = true
  · rw [if_pos hk]
    have h1 := (keepB_iff.1 hk).1
    have e : ent (shiftM x R.1 R.2) i j = shiftE x R.1 R.2 i j := by unfold shiftM; exact mkMat_ent hi hj
    rw [e] at h1
    exact ⟨fun _ => hk, fun _ => (shiftE_ne h b1 (by omega)).1.1 h1⟩
  · rw [if_neg hk]
    exact ⟨fun e => absurd rfl e, fun e => absurd e hk⟩
/-- all arcs of a closed walk that weighs nothing are critical -/
theorem crit_walk {i : Nat} (hi : i < x.length) : ∀ (t : List Nat) (k : Nat) (s : List Nat), lo x.length (s ++ k :: t) → wk (ent (shiftM x R.1 R.2)) i (s ++ k :: t) i → wt (ent (shiftM x R.1 R.2)) i (s ++ k :: t) i = 0 →
    wk (zA (critM x R)) k t i
  | [], k, s, hl, hw, hz => by
    have hl' := lo_app.1 hl
    have hk := (lo_cons.1 hl'.2).1
    rw [wk_app] at hw
    rw [wt_app] at hz
    show zA _ k i ≠ _
    rw [zA_ne, crit_ne h hb hk hi, keep_walk h hb hk hi]
    refine ⟨s, hl'.1, ⟨hw.2, hw.1⟩, ?_⟩
    have e : wt (ent (shiftM x R.1 R.2)) k [] i = ent (shiftM x R.1 R.2) k i := rfl
    show ent (shiftM x R.1 R.2) k i + wt (ent (shiftM x R.1 R.2)) i s k = 0
    omega
  | y :: t, k, s, hl, hw, hz => by
    have hl' := lo_app.1 hl
    have hk := lo_cons.1 hl'.2
    have hy := lo_cons.1 hk.2
    have e0 : s ++ k :: y :: t = (s ++ [k]) ++ y :: t := by simp
    have ih := crit_walk hi t y (s ++ [k]) (by rw [← e0]; exact hl) (by rw [← e0]; exact hw) (by rw [← e0]; exact hz)
    rw [wk_app] at hw
    rw [wt_app] at hz
    refine ⟨?_, ih⟩
    rw [zA_ne, crit_ne h hb hk.1 hy.1, keep_walk h hb hk.1 hy.1]
    have e1 : y :: (t ++ i :: s) = (y :: t) ++ i :: s := rfl
    refine ⟨t ++ i :: s, lo_app.2 ⟨hy.2, lo_cons.2 ⟨hi, hl'.1⟩⟩, ?_, ?_⟩
    · rw [e1, wk_app]; exact ⟨hw.2, hw.1⟩
    · rw [e1, wt_app]; omega
/-- the ends of a critical arc reach each other -/
theorem crit_back {i j : Nat} (hi : i < x.length) (hj : j < x.length) (hc : ent (critM x R) i j ≠ -1000000000000000) : RP (critM x R) x.length i j ∧ RP (critM x R) x.length j i := by
  refine ⟨?_, .inr ⟨[], lo_nil _, zA_ne.2 hc⟩⟩
  obtain ⟨m, m1, m2, m3⟩ := (keep_walk h hb hi hj).1 ((crit_ne h hb hi hj).1 hc)
  exact .inr ⟨m, m1, crit_walk h hb hi m j [] (lo_cons.2 ⟨hj, m1⟩) m2 m3⟩
end
end Go.Proofs.Ytokhkpbebimohaa

/- Plain law: growing a path into cycles, as the search does. No program is entered. -/
namespace Go.Proofs.Ytokhkpbebimohaa
set_option linter.unusedVariables false

theorem fwY_bd {A : Nat → Nat → Int} (hM : ∀ i j, A i j ≠ -1000000000000000 → -2000000000000 ≤ A i j ∧ A i j ≤ 2000000000000) : ∀ (l : List Nat) (v : Nat), fk A (v :: l) → -2000000000000 * (l.length : Int) ≤ fw A (v :: l) ∧ fw A (v :: l) ≤ 2000000000000 * (l.length : Int)
  | [], v, h => by show _ ≤ (0 : Int) ∧ (0 : Int) ≤ _; simp
  | y :: l, v, h => by
    have h1 := hM v y h.1
    have h2 := fwY_bd hM l y h.2
    show _ ≤ A v y + fw A (y :: l) ∧ A v y + fw A (y :: l) ≤ _
    simp only [List.length_cons]; omega

/-- the node that a path has come to -/
def lst (f : Nat) (m : List Nat) : Nat := (m ++ [f]).headD 0
theorem lst_split (f : Nat) (m : List Nat) : ∃ r, m ++ [f] = lst f m :: r ∧ r.length = m.length := by
  cases m with
  | nil => exact ⟨[], rfl, rfl⟩
  | cons a m => exact ⟨m ++ [f], rfl, by simp⟩
structure GOk (A : Nat → Nat → Int) (n f : Nat) (m : List Nat) : Prop where
  nd : (f :: m).Nodup
  lo : lo n (f :: m)
  lt : ∀ u ∈ m, f < u
  fk : fk A (m ++ [f])
section
variable {A : Nat → Nat → Int} {n f : Nat} {m : List Nat} {over : Int}
theorem GOk.start {f : Nat} (h : f < n) : GOk A n f [] := ⟨by simp, lo_cons.2 ⟨h, lo_nil _⟩, fun u h => by simp at h, trivial⟩
theorem GOk.lt_n (h : GOk A n f m) : lst f m < n := by
  obtain ⟨r, e, _⟩ := lst_split f m
  have : lst f m ∈ m ++ [f] := by rw [e]; simp
  refine h.lo _ ?_
  simp only [List.mem_append, List.mem_cons, List.not_mem_nil, or_false] at this ⊢
  exact this.symm
theorem GOk.close (h : GOk A n f m) (ha : A f (lst f m) ≠ -1000000000000000) : Cy A n f m ∧ cw A f m = fw A (m ++ [f]) + A f (lst f m) := by
  obtain ⟨r, e, _⟩ := lst_split f m
  have hk := h.fk
  refine ⟨⟨h.nd, h.lo, h.lt, ?_⟩, ?_⟩
  · rw [e] at hk ⊢; exact ⟨ha, hk⟩
  · unfold cw; rw [e]; show A f (lst f m) + fw A (lst f m :: r) = _; omega
theorem Cy.ok (h : Cy A n f m) : GOk A n f m ∧ A f (lst f m) ≠ -1000000000000000 := by
  obtain ⟨r, e, _⟩ := lst_split f m
  have hk := h.fk
  rw [e] at hk
  exact ⟨⟨h.nd, h.lo, h.lt, by rw [e]; exact hk.2⟩, hk.1⟩
theorem GOk.grow (h : GOk A n f m) {v : Nat} (h1 : f < v) (h2 : v < n) (h3 : v ∉ m) (ha : A v (lst f m) ≠ -1000000000000000) : GOk A n f (v :: m) ∧ fw A ((v :: m) ++ [f]) = fw A (m ++ [f]) + A v (lst f m) := by
  obtain ⟨r, e, _⟩ := lst_split f m
  have hk := h.fk
  have hd := List.nodup_cons.1 h.nd
  have hl := lo_cons.1 h.lo
  refine ⟨⟨?_, lo_cons.2 ⟨hl.1, lo_cons.2 ⟨h2, hl.2⟩⟩, fun u hu => ?_, ?_⟩, ?_⟩
  · rw [List.nodup_cons]
    refine ⟨fun hm => ?_, List.nodup_cons.2 ⟨h3, hd.2⟩⟩
    rcases List.mem_cons.1 hm with e | e
    · omega
    · exact hd.1 e
  · rcases List.mem_cons.1 hu with e | e
    · omega
    · exact h.lt u e
  · rw [List.cons_append, e]; rw [e] at hk; exact ⟨ha, hk⟩
  · rw [List.cons_append, e]; show A v (lst f m) + fw A (lst f m :: r) = _; omega
theorem beyond_of (h : GOk A n f m) (h0 : A f (lst f m) ≠ -1000000000000000 → fw A (m ++ [f]) + A f (lst f m) ≤ over)
    (h1 : ∀ v, f < v → v < n → v ∉ m → A v (lst f m) ≠ -1000000000000000 → Beyond A n f (v :: m) over) : Beyond A n f m over := by
  intro s hc
  rcases snoc_cases s with rfl | ⟨s', v, rfl⟩
  · have hk := hc.ok.2
    rw [List.nil_append] at hk ⊢
    rw [(h.close hk).2]; exact h0 hk
  · have e : (s' ++ [v]) ++ m = s' ++ v :: m := by simp
    rw [e] at hc ⊢
    have hv : v ∈ s' ++ v :: m := by simp
    have hnd := (List.nodup_append.1 (List.nodup_cons.1 hc.nd).2).2.1
    refine h1 v (hc.lt v hv) (hc.lo v (List.mem_cons_of_mem _ hv)) (List.nodup_cons.1 hnd).1 ?_ s' hc
    have hk := hc.fk
    have e2 : f :: ((s' ++ v :: m) ++ [f]) = (f :: s') ++ v :: (m ++ [f]) := by simp
    rw [e2] at hk
    have hk2 := ((fk_app A (f :: s') v (m ++ [f])).1 hk).2
    obtain ⟨r, e3, _⟩ := lst_split f m
    rw [e3] at hk2
    exact hk2.1
theorem over_of (h : ∀ f, f < n → Beyond A n f [] over) : ∀ f m, Cy A n f m → cw A f m ≤ over := fun f m hc => by
  have := h f (lo_cons.1 hc.lo).1 m (by rw [List.append_nil]; exact hc)
  rwa [List.append_nil] at this
theorem has_path (f : Nat) (m : List Nat) (v : Nat) : has (pathL f m) (v : Int) = decide (v ∈ f :: m) := by
  unfold has pathL castL
  cases e : decide (v ∈ f :: m)
  · have e := of_decide_eq_false e
    cases e2 : ((f :: m.reverse).map fun v : Nat => (v : Int)).contains (v : Int)
    · rfl
    · exfalso
      rw [List.contains_iff_mem, List.mem_map] at e2
      obtain ⟨u, hu, e3⟩ := e2
      obtain rfl : u = v := by omega
      exact e (by simpa using hu)
  · have e := of_decide_eq_true e
    rw [List.contains_iff_mem, List.mem_map]
    exact ⟨v, by simpa using e, rfl⟩
theorem GOk.bd {y : List (List Int)} (hY : YOk y n) {f : Nat} {m : List Nat} (h : GOk (ent y) n f m) : -20000000000000 ≤ fw (ent y) (m ++ [f]) ∧ fw (ent y) (m ++ [f]) ≤ 20000000000000 := by
  obtain ⟨r, e, hr⟩ := lst_split f m
  have hk := h.fk
  have hl := nodup_len n _ h.nd h.lo
  have hh := hY.hi
  rw [e] at hk ⊢
  have := fwY_bd hY.bd r _ hk
  simp only [List.length_cons] at hl
  omega
end
end Go.Proofs.Ytokhkpbebimohaa
