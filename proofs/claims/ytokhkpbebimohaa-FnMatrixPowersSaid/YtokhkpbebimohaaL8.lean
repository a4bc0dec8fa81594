/- The walk of FnMatrixProducts. Condition: the code reads. -/
import Derived.Test.YtokhkpbebimohaaD6
import Derived.Test.YtokhkpbebimohaaGE
import Derived.Test.YtokhkpbebimohaaGE
import Derived.Test.YtokhkpbebimohaaGK
namespace Go.Proofs.Ytokhkpbebimohaa
set_option linter.unusedVariables false
set_option linter.unusedSimpArgs false
open Go.RowKit

def sml (z : Int) : Prop := z = -1000000000000000 ∨ (-100000000 ≤ z ∧ z ≤ 100000000)
theorem isVal_sml {z : Int} (h : isVal z = true) : sml z := by
  rcases isVal_iff.1 h with e | e
  · exact .inl e
  · exact .inr (by omega)
theorem times_fin {a b : Int} (ha : a ≠ -1000000000000000) (hb : b ≠ -1000000000000000) : times a b = a + b := by unfold times; rw [if_neg (by omega)]
theorem times_bot {a b : Int} (h : times a b ≠ -1000000000000000) : a ≠ -1000000000000000 ∧ b ≠ -1000000000000000 := by
  constructor
  · rintro rfl; exact h (by unfold times; rw [if_pos (.inl rfl)])
  · rintro rfl; exact h (by unfold times; rw [if_pos (.inr rfl)])
theorem mx_bot (n : Nat) (f : Nat → Int) : -1000000000000000 ≤ mx n f := by
  induction n with
  | zero => exact Int.le_refl _
  | succ n ih => simp only [mx]; omega
/-- products associate with a vector -/
theorem mx_assoc {K N : Nat} {A : Nat → Int} {B : Nat → Nat → Int} {V : Nat → Int} (hA : ∀ k, k < K → sml (A k)) (hB : ∀ k j, k < K → j < N → sml (B k j)) (hV : ∀ j, j < N → sml (V j)) :
    mx K (fun k => times (A k) (mx N fun j => times (B k j) (V j))) = mx N (fun j => times (mx K fun k => times (A k) (B k j)) (V j)) := by
  have hfin : ∀ {z : Int}, sml z → z ≠ -1000000000000000 → -100000000 ≤ z ∧ z ≤ 100000000 := fun h hne => h.resolve_left hne
  apply Int.le_antisymm
  · rcases (mx_spec (n := K) (f := fun k => times (A k) (mx N fun j => times (B k j) (V j)))).1 with e | ⟨k, hk, e⟩
    · rw [e]; exact mx_bot _ _
    · rw [e]
      by_cases hb : times (A k) (mx N fun j => times (B k j) (V j)) = -1000000000000000
      · rw [hb]; exact mx_bot _ _
      · obtain ⟨h1, h2⟩ := times_bot hb
        rcases (mx_spec (n := N) (f := fun j => times (B k j) (V j))).1 with e2 | ⟨j, hj, e2⟩
        · exact absurd e2 h2
        · rw [e2] at h2
          obtain ⟨h3, h4⟩ := times_bot h2
          rw [times_fin h1 (by rw [e2]; exact h2), e2, times_fin h3 h4]
          have b1 := hfin (hA k hk) h1
          have b2 := hfin (hB k j hk hj) h3
          have b3 := hfin (hV j hj) h4
          have g1 := (mx_spec (n := K) (f := fun k => times (A k) (B k j))).2 k hk
          simp only [times_fin h1 h3] at g1
          have g2 := (mx_spec (n := N) (f := fun j => times (mx K fun k => times (A k) (B k j)) (V j))).2 j hj
          rw [times_fin (by omega) h4] at g2
          omega
  · rcases (mx_spec (n := N) (f := fun j => times (mx K fun k => times (A k) (B k j)) (V j))).1 with e | ⟨j, hj, e⟩
    · rw [e]; exact mx_bot _ _
    · rw [e]
      by_cases hb : times (mx K fun k => times (A k) (B k j)) (V j) = -1000000000000000
      · rw [hb]; exact mx_bot _ _
      · obtain ⟨h1, h2⟩ := times_bot hb
        rcases (mx_spec (n := K) (f := fun k => times (A k) (B k j))).1 with e2 | ⟨k, hk, e2⟩
        · exact absurd e2 h1
        · rw [e2] at h1
          obtain ⟨h3, h4⟩ := times_bot h1
          rw [times_fin (by rw [e2]; exact h1) h2, e2, times_fin h3 h4]
          have b1 := hfin (hA k hk) h3
          have b2 := hfin (hB k j hk hj) h4
          have b3 := hfin (hV j hj) h2
          have g1 := (mx_spec (n := N) (f := fun j => times (B k j) (V j))).2 j hj
          simp only [times_fin h4 h2] at g1
          have g2 := (mx_spec (n := K) (f := fun k => times (A k) (mx N fun j => times (B k j) (V j)))).2 k hk
          rw [times_fin h3 (by omega)] at g2
          omega
theorem prod_facts {a b : List (List Int)} {v : List Int} (h : (mulV a b).2 = 0) (hv : isVec v = true) (hl : v.length = (row b 0).length) :
    ((appV b v).2 = 0 ∨ (appV b v).2 = 3) ∧ ((appV b v).2 = 0 → (appV a (appV b v).1).2 = 0 ∨ (appV a (appV b v).1).2 = 3) ∧ ((appV (mulV a b).1 v).2 = 0 ∨ (appV (mulV a b).1 v).2 = 3) ∧
      ((appV b v).2 = 0 → (appV a (appV b v).1).2 = 0 → (appV (mulV a b).1 v).2 = 0 → (appV a (appV b v).1).1 = (appV (mulV a b).1 v).1) := by
  have hab : (isMat a && isMat b) = true := by
    cases e : isMat a && isMat b
    · unfold mulV at h; rw [e] at h; simp at h
    · rfl
  have hab2 := Bool.and_eq_true _ _ ▸ hab
  obtain ⟨ha, hb⟩ := hab2
  have hs : (row a 0).length = b.length := by
    refine Classical.byContradiction fun hc => ?_
    unfold mulV at h; rw [hab, if_pos rfl, if_neg hc] at h; simp at h
  have hch : allM (mkMat a.length (row b 0).length (mulE b.length a b)) = true := by
    cases e : allM (mkMat a.length (row b 0).length (mulE b.length a b))
    · unfold mulV chkM at h; rw [hab, if_pos rfl, if_pos hs, e] at h; simp at h
    · rfl
  have hX : mulV a b = (mkMat a.length (row b 0).length (mulE b.length a b), 0) := by
    unfold mulV chkM; rw [hab, if_pos rfl, if_pos hs, hch]; rfl
  obtain ⟨ra, a1, a2, a3, a4⟩ := isMat_rect ha
  obtain ⟨rb, b1, b2, b3, b4⟩ := isMat_rect hb
  rw [hX]
  simp only
  have hXm : isMat (mkMat a.length (row b 0).length (mulE b.length a b)) = true := by rw [isMat_mk _ a1 a2 b3 b4]; exact hch
  have hXr : (row (mkMat a.length (row b 0).length (mulE b.length a b)) 0).length = (row b 0).length := by rw [mkMat_row (by omega), mkRow_len]
  have e1 : appV b v = chkX (mkRow b.length (appF v.length b v)) := by unfold appV; rw [hb, hv, if_pos (by rfl), if_pos hl.symm]
  have e3 : appV (mkMat a.length (row b 0).length (mulE b.length a b)) v = chkX (mkRow a.length (appF v.length (mkMat a.length (row b 0).length (mulE b.length a b)) v)) := by
    unfold appV; rw [hXm, hv, if_pos (by rfl), hXr, if_pos hl.symm, mkMat_len]
  have hck : ∀ p, (chkX p).2 = 0 ∨ (chkX p).2 = 3 := fun p => by unfold chkX; split <;> simp
  have hck0 : ∀ p, (chkX p).2 = 0 → (chkX p).1 = p ∧ allV p = true := fun p hp => by
    unfold chkX at hp ⊢
    split
    · rename_i e; exact ⟨rfl, e⟩
    · rename_i e; rw [if_neg e] at hp; simp at hp
  have e2 : (appV b v).2 = 0 → appV a (appV b v).1 = chkX (mkRow a.length (appF b.length a (mkRow b.length (appF v.length b v)))) := fun h0 => by
    rw [e1] at h0 ⊢
    obtain ⟨g1, g2⟩ := hck0 _ h0
    rw [g1]
    have hvp : isVec (mkRow b.length (appF v.length b v)) = true := by
      unfold isVec; rw [g2, mkRow_len, show inR (b.length : Int) 1 10 = true from inR_iff.2 (by omega)]; rfl
    unfold appV
    rw [ha, hvp, if_pos (by rfl), mkRow_len, if_pos hs]
  refine ⟨by rw [e1]; exact hck _, fun h0 => by rw [e2 h0]; exact hck _, by rw [e3]; exact hck _, fun h0 h1 h2 => ?_⟩
  rw [e2 h0] at h1 ⊢
  rw [e3] at h2 ⊢
  rw [(hck0 _ h1).1, (hck0 _ h2).1]
  have hvv : allV v = true := by unfold isVec at hv; rw [Bool.and_eq_true] at hv; exact hv.2
  refine list_ext_nth (by rw [mkRow_len, mkRow_len]) fun i hi => ?_
  rw [mkRow_len] at hi
  rw [mkRow_nth hi, mkRow_nth hi]
  have f1 : appF b.length a (mkRow b.length (appF v.length b v)) i = mx b.length (fun k => times (ent a i k) (mx v.length fun j => times (ent b k j) (nth v j))) := by
    unfold appF; exact mx_congr fun k hk => by rw [mkRow_nth hk]
  have f2 : appF v.length (mkMat a.length (row b 0).length (mulE b.length a b)) v i = mx v.length (fun j => times (mx b.length fun k => times (ent a i k) (ent b k j)) (nth v j)) := by
    unfold appF; exact mx_congr fun j hj => by rw [mkMat_ent hi (by omega)]; rfl
  rw [f1, f2]
  exact mx_assoc (fun k hk => isVal_sml (isMat_val ha hi (by omega))) (fun k j hk hj => isVal_sml (isMat_val hb hk (by omega))) (fun j hj => isVal_sml (allV_iff.1 hvv j hj))

end Go.Proofs.Ytokhkpbebimohaa
