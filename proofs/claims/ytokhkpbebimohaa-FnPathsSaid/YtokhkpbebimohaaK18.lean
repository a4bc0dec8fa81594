/- Plain law: the heaviest path weighs what the star says; no path weighs more. No program is entered. -/
import Derived.Test.YtokhkpbebimohaaK17
import Derived.Test.YtokhkpbebimohaaGP
import Derived.Test.YtokhkpbebimohaaGN
import Derived.Test.YtokhkpbebimohaaE26
namespace Go.Proofs.Ytokhkpbebimohaa
set_option linter.unusedVariables false

theorem nth_cons0 (x : Int) (xs : List Int) : nth (x :: xs) 0 = x := by simp [nth]
theorem nth_consS (x : Int) (xs : List Int) (i : Nat) : nth (x :: xs) (i + 1) = nth xs i := by simp [nth]
/-- the nodes of the heaviest path, its arcs, its last node -/
theorem tail_facts (x : List (List Int)) {u : Nat} : ∀ (k v : Nat), v < x.length → lk (ent x) x.length u k v ≠ -1000000000000000 →
    (∀ i, i < k + 1 → 0 ≤ nth ((v : Int) :: tailL (ent x) x.length u k v) i ∧ nth ((v : Int) :: tailL (ent x) x.length u k v) i ≤ (x.length : Int) - 1) ∧
    (∀ i, i < k → arcW x ((v : Int) :: tailL (ent x) x.length u k v) i ≠ -1000000000000000) ∧ sumTo (arcW x ((v : Int) :: tailL (ent x) x.length u k v)) k = lk (ent x) x.length u k v ∧
    nth ((v : Int) :: tailL (ent x) x.length u k v) k = (u : Int)
  | 0, v, hv, hne => by
    have huv : u = v := by
      refine Classical.byContradiction fun e => hne ?_
      show unitF u v = _
      unfold unitF; rw [if_neg e]
    subst huv
    refine ⟨fun i hi => ?_, fun i hi => absurd hi (Nat.not_lt_zero _), ?_, nth_cons0 _ _⟩
    · obtain rfl : i = 0 := by omega
      rw [nth_cons0]; omega
    · show (0 : Int) = unitF u u
      unfold unitF; rw [if_pos rfl]
  | k + 1, v, hv, hne => by
    obtain ⟨n1, n2, -⟩ := next_ex hne
    obtain ⟨b1, b2, b3⟩ := nextB_iff.1 n2
    obtain ⟨g1, g2, g3, g4⟩ := tail_facts x k _ n1 b2
    have e : tailL (ent x) x.length u (k + 1) v = (nextN (ent x) x.length u k v : Int) :: tailL (ent x) x.length u k (nextN (ent x) x.length u k v) := rfl
    rw [e]
    have a0 : arcW x ((v : Int) :: (nextN (ent x) x.length u k v : Int) :: tailL (ent x) x.length u k (nextN (ent x) x.length u k v)) 0 = ent x (nextN (ent x) x.length u k v) v := by
      unfold arcW; rw [nth_consS, nth_cons0, nth_cons0]; simp
    have aS : ∀ i, arcW x ((v : Int) :: (nextN (ent x) x.length u k v : Int) :: tailL (ent x) x.length u k (nextN (ent x) x.length u k v)) (i + 1) = arcW x ((nextN (ent x) x.length u k v : Int) :: tailL (ent x) x.length u k (nextN (ent x) x.length u k v)) i := fun i => by
      unfold arcW; rw [nth_consS (v : Int) _ (i + 1), nth_consS (v : Int) _ i]
    refine ⟨fun i hi => ?_, fun i hi => ?_, ?_, ?_⟩
    · cases i with
      | zero => rw [nth_cons0]; omega
      | succ i => rw [nth_consS]; exact g1 i (by omega)
    · cases i with
      | zero => rw [a0]; exact b1
      | succ i => rw [aS]; exact g2 i (by omega)
    · rw [sumTo_shift, a0, sumTo_congr (g := arcW x ((nextN (ent x) x.length u k v : Int) :: tailL (ent x) x.length u k (nextN (ent x) x.length u k v))) fun i hi => aS i, g3]
      omega
    · rw [nth_consS]; exact g4
/-- a path of the matrix, walked from its last node to its first -/
theorem path_wp {x : List (List Int)} {xs : List Int} (hn : ∀ i, i < xs.length → 0 ≤ nth xs i ∧ nth xs i ≤ (x.length : Int) - 1) : ∀ (k : Nat) (t : Int), k < xs.length → walkO x xs k = some t → WP (ent x) x.length (nth xs k).toNat (nth xs 0).toNat t
  | 0, t, hk, h => by
    simp only [walkO, Option.some.injEq] at h
    exact .inl ⟨rfl, h.symm⟩
  | k + 1, t, hk, h => by
    rw [walkO] at h
    split at h
    · cases h
    · rename_i s hs
      split at h
      · cases h
      · rename_i hne
        simp only [Option.some.injEq] at h
        have ih := path_wp hn k s (by omega) hs
        have hk0 := hn k (by omega)
        rcases ih with ⟨e1, e2⟩ | ⟨m, m1, m2, m3⟩
        · refine .inr ⟨[], lo_nil _, ?_, ?_⟩
          · show ent x _ _ ≠ _; rw [← e1]; exact hne
          · show ent x _ _ = t; rw [← e1]; omega
        · refine .inr ⟨(nth xs k).toNat :: m, lo_cons.2 ⟨by omega, m1⟩, ⟨hne, m2⟩, ?_⟩
          show ent x _ _ + wt (ent x) _ m _ = t
          rw [m3]; omega
theorem star_code {x : List (List Int)} (h1 : isSq x = true) (h2 : starB (ent x) x.length = true) : (starV x = (starM x x.length, 0) ∧ allM (starM x x.length) = true) ∨ starV x = ([], 3) := by
  unfold starV
  rw [h1, h2]
  simp only [if_true]
  unfold chkM
  cases e : allM (starM x x.length)
  · exact .inr (by simp)
  · exact .inl ⟨by simp, rfl⟩
/-- what FnPaths asks of the path handed back -/
theorem hp_facts {x : List (List Int)} {f t : Int} (h : (hpV x f t).2 = 0) : ∃ fn u : Nat, f = (fn : Int) ∧ t = (u : Int) ∧ fn < x.length ∧ u < x.length ∧ 1 ≤ x.length ∧ Rect x x.length x.length ∧
    1 ≤ (hpV x f t).1.length ∧ nth (hpV x f t).1 0 = f ∧ nth (hpV x f t).1 ((hpV x f t).1.length - 1) = t ∧
    ((starV x).2 = 3 ∨ ((starV x) = (starM x x.length, 0) ∧ pathV x (hpV x f t).1 = (ent (starM x x.length) u fn, 0))) := by
  have h1 : isSq x = true := by
    cases e : isSq x
    · unfold hpV at h; rw [e] at h; simp at h
    · rfl
  have h2 : (inR f 0 ((x.length : Int) - 1) && inR t 0 ((x.length : Int) - 1)) = true := by
    cases e : inR f 0 ((x.length : Int) - 1) && inR t 0 ((x.length : Int) - 1)
    · unfold hpV at h; rw [h1, e] at h; simp at h
    · rfl
  have h3 : starB (ent x) x.length = true := by
    cases e : starB (ent x) x.length
    · unfold hpV at h; rw [h1, h2, e] at h; simp at h
    · rfl
  have h4 : fwS (ent x) x.length t.toNat f.toNat ≠ -1000000000000000 := fun e => by
    unfold hpV at h; rw [h1, h2, h3] at h; simp [e] at h
  have hv : hpV x f t = (f :: tailL (ent x) x.length t.toNat (hpK (ent x) x.length t.toNat f.toNat) f.toNat, 0) := by
    unfold hpV; rw [h1, h2, h3]; simp [h4]
  have h5 := h2
  rw [Bool.and_eq_true] at h5
  obtain ⟨⟨f1, f2⟩, t1, t2⟩ := And.intro (inR_iff.1 h5.1) (inR_iff.1 h5.2)
  obtain ⟨fn, rfl⟩ := Int.eq_ofNat_of_zero_le f1
  obtain ⟨u, rfl⟩ := Int.eq_ofNat_of_zero_le t1
  have hfn : fn < x.length := by omega
  have hu : u < x.length := by omega
  obtain ⟨rx, hl1, hl2⟩ := isSq_rect h1
  have hA := isSq_abd h1
  simp only [Int.toNat_natCast] at hv h4
  obtain ⟨k1, k2, -⟩ := hpK_spec hA h3 hl2 hu hfn h4
  rw [hv]
  simp only
  have hne : lk (ent x) x.length u (hpK (ent x) x.length u fn) fn ≠ -1000000000000000 := by rw [k2]; exact h4
  obtain ⟨g1, g2, g3, g4⟩ := tail_facts x (hpK (ent x) x.length u fn) fn hfn hne
  have hlen : ((fn : Int) :: tailL (ent x) x.length u (hpK (ent x) x.length u fn) fn).length = hpK (ent x) x.length u fn + 1 := by simp [tailL_len]
  refine ⟨fn, u, rfl, rfl, hfn, hu, hl1, rx, by rw [hlen]; omega, nth_cons0 _ _, by rw [hlen]; exact g4, ?_⟩
  rcases star_code h1 h3 with ⟨e1, e2⟩ | e1
  · right
    refine ⟨e1, ?_⟩
    have hent : ent (starM x x.length) u fn = fwS (ent x) x.length u fn := mkMat_ent hu hfn
    have hval : isVal (fwS (ent x) x.length u fn) = true := by
      rw [← hent]
      unfold allM at e2
      exact allV_iff.1 (all_iff_row.1 e2 u (by rw [(starM_rect x x.length).1]; exact hu)) fn (by rw [(starM_rect x x.length).2 u hu]; exact hfn)
    unfold pathV
    rw [h1, hlen, inR_iff.2 (by omega : (1 : Int) ≤ ((hpK (ent x) x.length u fn + 1 : Nat) : Int) ∧ ((hpK (ent x) x.length u fn + 1 : Nat) : Int) ≤ 100), nodes_iff.2 (by rw [hlen]; exact g1)]
    simp only [Bool.and_self, if_true, Nat.add_sub_cancel]
    rw [walkO_all g2, g3, k2, hent]
    simp only [optV, chkV, hval, if_true]
  · left; rw [e1]
/-- what FnPaths asks of a path that is given -/
theorem path_facts {x : List (List Int)} {ys : List Int} (h : (pathV x ys).2 = 0) : 1 ≤ ys.length ∧ 1 ≤ x.length ∧ (∀ i, i < ys.length → 0 ≤ nth ys i ∧ nth ys i < (x.length : Int)) ∧ ((starV x).2 = 0 → (starV x).1 = starM x x.length ∧ (pathV x ys).1 ≤ ent (starM x x.length) (nth ys (ys.length - 1)).toNat (nth ys 0).toNat) := by
  have h1 : isSq x = true := by
    cases e : isSq x
    · unfold pathV at h; rw [e] at h; simp at h
    · rfl
  have h2 : (inR ys.length 1 100 && nodes x.length ys) = true := by
    cases e : inR ys.length 1 100 && nodes x.length ys
    · unfold pathV at h; rw [h1, e] at h; simp at h
    · rfl
  have h3 := h2
  rw [Bool.and_eq_true] at h3
  have hl := inR_iff.1 h3.1
  have hn := nodes_iff.1 h3.2
  obtain ⟨rx, hl1, hl2⟩ := isSq_rect h1
  refine ⟨by omega, hl1, fun i hi => by have := hn i hi; omega, fun hc => ?_⟩
  have h4 : starB (ent x) x.length = true := by
    cases e : starB (ent x) x.length
    · unfold starV at hc; rw [h1, e] at hc; simp at hc
    · rfl
  rcases star_code h1 h4 with ⟨e1, e2⟩ | e1
  · refine ⟨by rw [e1], ?_⟩
    cases hw : walkO x ys (ys.length - 1) with
    | none => unfold pathV at h; rw [h1, h2, hw] at h; simp [optV] at h
    | some t =>
      have hp : pathV x ys = chkV t := by unfold pathV; rw [h1, h2, hw]; rfl
      have hv : chkV t = (t, 0) := by
        rw [hp] at h
        unfold chkV at h ⊢
        split at h
        · rename_i e; rw [if_pos e]
        · simp at h
      rw [hp, hv]
      have hA := isSq_abd h1
      have w1 := hn (ys.length - 1) (by omega)
      have w0 := hn 0 (by omega)
      rw [show ent (starM x x.length) (nth ys (ys.length - 1)).toNat (nth ys 0).toNat = fwS (ent x) x.length (nth ys (ys.length - 1)).toNat (nth ys 0).toNat from mkMat_ent (by omega) (by omega)]
      have hwp := path_wp hn (ys.length - 1) t (by omega) hw
      rcases star_isStar hA h4 _ _ (by omega : (nth ys (ys.length - 1)).toNat < x.length) (by omega : (nth ys 0).toNat < x.length) with ⟨_, hno⟩ | ⟨_, hmx⟩
      · exact absurd hwp (hno _)
      · exact hmx _ hwp
  · rw [e1] at hc; simp at hc
end Go.Proofs.Ytokhkpbebimohaa
