/- Plain lists: matrices built row by row. -/
import Derived.Test.YtljchmkoafahgaaP2
namespace Go.Proofs.Ytljchmkoafahgaa
set_option linter.unusedVariables false

theorem mkRow_succ (n : Nat) (f : Nat → Int) : mkRow (n + 1) f = mkRow n f ++ [f n] := by simp [mkRow, List.range_succ]
theorem mkMat_succ (m n : Nat) (f : Nat → Nat → Int) : mkMat (m + 1) n f = mkMat m n f ++ [mkRow n (f m)] := by simp [mkMat, List.range_succ]
theorem mkRow_zero (f : Nat → Int) : mkRow 0 f = [] := rfl
theorem mkMat_zero (n : Nat) (f : Nat → Nat → Int) : mkMat 0 n f = [] := rfl
theorem row_set' (m : List (List Int)) (i j : Nat) (xs : List Int) (hi : i < m.length) : row (m.set i xs) j = if j = i then xs else row m j := by
  unfold row
  by_cases h : j = i
  · subst h; simp [hi]
  · rw [if_neg h]; simp [List.getD_eq_getElem?_getD, Ne.symm h]
theorem ent_set {m : List (List Int)} {i j : Nat} {x : Int} (hi : i < m.length) (hj : j < (row m i).length) (i' j' : Nat) :
    ent (m.set i ((row m i).set j x)) i' j' = if i' = i ∧ j' = j then x else ent m i' j' := by
  unfold ent
  rw [row_set' m i i' _ hi]
  by_cases h : i' = i
  · subst h
    rw [if_pos rfl, nth_set _ _ _ _ hj]
    by_cases h' : j' = j
    · subst h'; simp
    · simp [h']
  · simp [h]
theorem rect_set {m : List (List Int)} {i j M N : Nat} {x : Int} (h : Rect m M N) (hi : i < M) : Rect (m.set i ((row m i).set j x)) M N := by
  refine ⟨by simpa using h.1, fun k hk => ?_⟩
  rw [row_set' m i k _ (by rw [h.1]; exact hi)]
  split
  · rename_i e; subst e; simpa using h.2 k hk
  · exact h.2 k hk
theorem rect_ext {a b : List (List Int)} {m n : Nat} (ha : Rect a m n) (hb : Rect b m n) (h : ∀ i j, i < m → j < n → ent a i j = ent b i j) : a = b := by
  refine list_ext_row (by rw [ha.1, hb.1]) fun i hi => ?_
  rw [ha.1] at hi
  refine list_ext_nth (by rw [ha.2 i hi, hb.2 i hi]) fun j hj => ?_
  rw [ha.2 i hi] at hj
  exact h i j hi hj
theorem rect_eq_mk {a : List (List Int)} {m n : Nat} {f : Nat → Nat → Int} (ha : Rect a m n) (h : ∀ i j, i < m → j < n → ent a i j = f i j) : a = mkMat m n f :=
  rect_ext ha (rect_mk m n f) fun i j hi hj => by rw [mkMat_ent hi hj]; exact h i j hi hj

end Go.Proofs.Ytljchmkoafahgaa
