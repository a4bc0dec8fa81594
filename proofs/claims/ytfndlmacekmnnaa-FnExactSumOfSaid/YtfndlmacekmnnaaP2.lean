/- Plain lists of lists: lengths, marks. Definitions and lemmas, no program. -/
import Derived.Test.YtfndlmacekmnnaaB
import Derived.Test.YtfndlmacekmnnaaP1
namespace Go.Proofs.Ytfndlmacekmnnaa
set_option linter.unusedVariables false

/-- how many numbers a list of lists holds -/
def tot : List (List Int) → Nat
  | [] => 0
  | xs :: m => xs.length + tot m
theorem tot_append (a b : List (List Int)) : tot (a ++ b) = tot a + tot b := by
  induction a with
  | nil => simp [tot]
  | cons x a ih => simp [tot, ih]; omega
theorem tot_take_succ (m : List (List Int)) (k : Nat) (h : k < m.length) : tot (m.take (k + 1)) = tot (m.take k) + (row m k).length := by
  rw [List.take_succ_eq_append_getElem h, tot_append, row_of_lt h]; simp [tot]
theorem tot_take_le (m : List (List Int)) (k : Nat) : tot (m.take k) ≤ tot m := by
  have := tot_append (m.take k) (m.drop k)
  rw [List.take_append_drop] at this; omega
theorem len_le_tot (m : List (List Int)) (k : Nat) (h : k < m.length) : (row m k).length ≤ tot m := by
  have h1 := tot_take_succ m k h
  have h2 := tot_take_le m (k + 1)
  omega

/-- the numbers k, k + 1 .. -/
def runI (n : Nat) (k : Int) : List Int := (List.range n).map fun j : Nat => k + (j : Int)
theorem runI_len (n : Nat) (k : Int) : (runI n k).length = n := by simp [runI]
theorem runI_nth {n j : Nat} {k : Int} (h : j < n) : nth (runI n k) j = k + j := by simp [nth, runI, h]
/-- a list of lists, its places numbered from k on -/
def markM (m : List (List Int)) (k : Int) : List (List Int) := (List.range m.length).map fun i => runI (row m i).length (k + tot (m.take i))
theorem markM_len (m : List (List Int)) (k : Int) : (markM m k).length = m.length := by simp [markM]
theorem markM_row {m : List (List Int)} {k : Int} {i : Nat} (h : i < m.length) : row (markM m k) i = runI (row m i).length (k + tot (m.take i)) := by simp [row, markM, h]
theorem tot_congr : ∀ (a b : List (List Int)), a.length = b.length → (∀ i, i < a.length → (row a i).length = (row b i).length) → tot a = tot b
  | [], [], _, _ => rfl
  | x :: a, y :: b, h, e => by
    have h0 := e 0 (by simp)
    simp [row] at h0
    simp [tot, h0, tot_congr a b (by simpa using h) (fun i hi => by have := e (i + 1) (by simpa using hi); simpa [row] using this)]
theorem row_take {m : List (List Int)} {i k : Nat} (h : i < k) : row (m.take k) i = row m i := by
  simp [row, List.getD_eq_getElem?_getD, h]
theorem markM_tot (m : List (List Int)) (k : Int) (i : Nat) : tot ((markM m k).take i) = tot (m.take i) := by
  refine tot_congr _ _ (by simp [markM_len]) fun j hj => ?_
  simp [markM_len] at hj
  rw [row_take (by omega), row_take (by omega), markM_row (by omega), runI_len]

/-- all numbers are values; all are finite ones -/
def allV (xs : List Int) : Bool := xs.all isVal
def allF (xs : List Int) : Bool := xs.all fin
theorem allV_iff {xs : List Int} : allV xs = true ↔ ∀ i, i < xs.length → isVal (nth xs i) = true := by
  unfold allV
  rw [List.all_eq_true]
  constructor
  · intro h i hi
    rw [nth_of_lt hi]; exact h _ (List.getElem_mem hi)
  · intro h x hx
    obtain ⟨i, hi, rfl⟩ := List.getElem_of_mem hx
    have := h i hi
    rwa [nth_of_lt hi] at this
theorem allF_iff {xs : List Int} : allF xs = true ↔ ∀ i, i < xs.length → fin (nth xs i) = true := by
  unfold allF
  rw [List.all_eq_true]
  constructor
  · intro h i hi
    rw [nth_of_lt hi]; exact h _ (List.getElem_mem hi)
  · intro h x hx
    obtain ⟨i, hi, rfl⟩ := List.getElem_of_mem hx
    have := h i hi
    rwa [nth_of_lt hi] at this
theorem allV_no {xs : List Int} {i : Nat} (hi : i < xs.length) (h : isVal (nth xs i) = false) : allV xs = false := by
  rw [Bool.eq_false_iff]; intro e; rw [allV_iff.1 e i hi] at h; simp at h
theorem allF_no {xs : List Int} {i : Nat} (hi : i < xs.length) (h : fin (nth xs i) = false) : allF xs = false := by
  rw [Bool.eq_false_iff]; intro e; rw [allF_iff.1 e i hi] at h; simp at h
/-- the greatest of some values -/
def maxI (a b : Int) : Int := if a < b then b else a
def sumI (xs : List Int) : Int := xs.foldl max (-1000000000000000)
theorem sumI_snoc (xs : List Int) (k : Nat) (h : k < xs.length) : sumI (xs.take (k + 1)) = max (sumI (xs.take k)) (nth xs k) := by
  unfold sumI
  rw [List.take_succ_eq_append_getElem h, List.foldl_append, nth_of_lt h]; rfl
/-- a list of lists is a matrix; a square one -/
def rowOk (n : Nat) (r : List Int) : Bool := r.length == n && allV r
def isMat (m : List (List Int)) : Bool := inR m.length 1 10 && inR (row m 0).length 1 10 && m.all (rowOk (row m 0).length)
def isSq (m : List (List Int)) : Bool := isMat m && m.length == (row m 0).length
def isVec (x : List Int) : Bool := inR x.length 1 10 && allV x
theorem all_iff_row {m : List (List Int)} {p : List Int → Bool} : m.all p = true ↔ ∀ i, i < m.length → p (row m i) = true := by
  rw [List.all_eq_true]
  constructor
  · intro h i hi
    rw [row_of_lt hi]; exact h _ (List.getElem_mem hi)
  · intro h x hx
    obtain ⟨i, hi, rfl⟩ := List.getElem_of_mem hx
    have := h i hi
    rwa [row_of_lt hi] at this
theorem all_no_row {m : List (List Int)} {p : List Int → Bool} {i : Nat} (hi : i < m.length) (h : p (row m i) = false) : m.all p = false := by
  rw [Bool.eq_false_iff]; intro e; rw [all_iff_row.1 e i hi] at h; simp at h
/-- what SumOf returns -/
def sumV (xs : List Int) : Int × Int := if 200 < xs.length then (0, 3) else if allV xs then (sumI xs, 0) else (0, 1)

end Go.Proofs.Ytfndlmacekmnnaa
