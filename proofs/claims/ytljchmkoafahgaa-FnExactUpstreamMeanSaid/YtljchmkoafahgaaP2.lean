/- Plain lists of lists: lengths, marks. Definitions and lemmas, no program. -/
import Derived.Test.YtljchmkoafahgaaB
import Derived.Test.YtljchmkoafahgaaP1
namespace Go.Proofs.Ytljchmkoafahgaa
set_option linter.unusedVariables false

/-- how many numbers a list of lists holds -/
def tot : List (List Int) → Nat
  | [] => 0
  | xs :: m => xs.length + tot m
theorem tot_append (a b : List (List Int)) : tot (a ++ b) = tot a + tot b := by
  induction a with
  | nil => simp [tot]
  | cons x a ih => simp [tot, ih]; omega
theorem tot_take_succ (m : List (List Int)) (k : Nat) (h : k < m.length) : tot (m.take (k + 1)) = tot (m.take k) + (row m k).length := by
  rw [List.take_succ_eq_append_getElem h, tot_append, row_of_lt h]; simp [tot]
theorem tot_take_le (m : List (List Int)) (k : Nat) : tot (m.take k) ≤ tot m := by
  have := tot_append (m.take k) (m.drop k)
  rw [List.take_append_drop] at this; omega
theorem len_le_tot (m : List (List Int)) (k : Nat) (h : k < m.length) : (row m k).length ≤ tot m := by
  have h1 := tot_take_succ m k h
  have h2 := tot_take_le m (k + 1)
  omega

/-- the numbers k, k + 1 .. -/
def runI (n : Nat) (k : Int) : List Int := (List.range n).map fun j : Nat => k + (j : Int)
theorem runI_len (n : Nat) (k : Int) : (runI n k).length = n := by simp [runI]
theorem runI_nth {n j : Nat} {k : Int} (h : j < n) : nth (runI n k) j = k + j := by simp [nth, runI, h]
/-- a list of lists, its places numbered from k on -/
def markM (m : List (List Int)) (k : Int) : List (List Int) := (List.range m.length).map fun i => runI (row m i).length (k + tot (m.take i))
theorem markM_len (m : List (List Int)) (k : Int) : (markM m k).length = m.length := by simp [markM]
theorem markM_row {m : List (List Int)} {k : Int} {i : Nat} (h : i < m.length) : row (markM m k) i = runI (row m i).length (k + tot (m.take i)) := by simp [row, markM, h]
theorem tot_congr : ∀ (a b : List (List Int)), a.length = b.length → (∀ i, i < a.length → (row a i).length = (row b i).length) → tot a = tot b
  | [], [], _, _ => rfl
  | x :: a, y :: b, h, e => by
    have h0 := e 0 (by simp)
    simp [row] at h0
    simp [tot, h0, tot_congr a b (by simpa using h) (fun i hi => by have := e (i + 1) (by simpa using hi); simpa [row] using this)]
theorem row_take {m : List (List Int)} {i k : Nat} (h : i < k) : row (m.take k) i = row m i := by
  simp [row, List.getD_eq_getElem?_getD, h]
theorem markM_tot (m : List (List Int)) (k : Int) (i : Nat) : tot ((markM m k).take i) = tot (m.take i) := by
  refine tot_congr _ _ (by simp [markM_len]) fun j hj => ?_
  simp [markM_len] at hj
  rw [row_take (by omega), row_take (by omega), markM_row (by omega), runI_len]

/-- all numbers are values; all are finite ones -/
def allV (xs : List Int) : Bool := xs.all isVal
def allF (xs : List Int) : Bool := xs.all fin
theorem allV_iff {xs : List Int} : allV xs = true ↔ ∀ i, i < xs.length → isVal (nth xs i) = true := by
  unfold allV
  rw [List.all_eq_true]
  constructor
  · intro h i hi
    rw [nth_of_lt hi]; exact h _ (List.getElem_mem hi)
  · intro h x hx
    obtain ⟨i, hi, rfl⟩ := List.getElem_of_mem hx
    have := h i hi
    rwa [nth_of_lt hi] at this
theorem allF_iff {xs : List Int} : allF xs = true ↔ ∀ i, i < xs.length → fin (nth xs i) = true := by
  unfold allF
  rw [List.all_eq_true]
  constructor
  · intro h i hi
    rw [nth_of_lt hi]; exact h _ (List.getElem_mem hi)
  · intro h x hx
    obtain ⟨i, hi, rfl⟩ := List.getElem_of_mem hx
    have := h i hi
    rwa [nth_of_lt hi] at this
theorem allV_no {xs : List Int} {i : Nat} (hi : i < xs.length) (h : isVal (nth xs i) = false) : allV xs = false := by
  rw [Bool.eq_false_iff]; intro e; rw [allV_iff.1 e i hi] at h; simp at h
theorem allF_no {xs : List Int} {i : Nat} (hi : i < xs.length) (h : fin (nth xs i) = false) : allF xs = false := by
  rw [Bool.eq_false_iff]; intro e; rw [allF_iff.1 e i hi] at h; simp at h
/-- the greatest of some values -/
def maxI (a b : Int) : Int := if a < b then b else a
def sumI (xs : List Int) : Int := xs.foldl max (-1000000000000000)
theorem sumI_snoc (xs : List Int) (k : Nat) (h : k < xs.length) : sumI (xs.take (k + 1)) = max (sumI (xs.take k)) (nth xs k) := by
  unfold sumI
  rw [List.take_succ_eq_append_getElem h, List.foldl_append, nth_of_lt h]; rfl
/-- a list of lists is a matrix; a square one -/
def rowOk (n : Nat) (r : List Int) : Bool := r.length == n && allV r
def isMat (m : List (List Int)) : Bool := inR m.length 1 10 && inR (row m 0).length 1 10 && m.all (rowOk (row m 0).length)
def isSq (m : List (List Int)) : Bool := isMat m && m.length == (row m 0).length
def isVec (x : List Int) : Bool := inR x.length 1 10 && allV x
theorem all_iff_row {m : List (List Int)} {p : List Int → Bool} : m.all p = true ↔ ∀ i, i < m.length → p (row m i) = true := by
  rw [List.all_eq_true]
  constructor
  · intro h i hi
    rw [row_of_lt hi]; exact h _ (List.getElem_mem hi)
  · intro h x hx
    obtain ⟨i, hi, rfl⟩ := List.getElem_of_mem hx
    have := h i hi
    rwa [row_of_lt hi] at this
theorem all_no_row {m : List (List Int)} {p : List Int → Bool} {i : Nat} (hi : i < m.length) (h : p (row m i) = false) : m.all p = false := by
  rw [Bool.eq_false_iff]; intro e; rw [all_iff_row.1 e i hi] at h; simp at h
/-- what SumOf returns -/
def sumV (xs : List Int) : Int × Int := if 200 < xs.length then (0, 3) else if allV xs then (sumI xs, 0) else (0, 1)

/-- the matrix of m rows and n columns with the entries f -/
def mkRow (n : Nat) (f : Nat → Int) : List Int := (List.range n).map f
def mkMat (m n : Nat) (f : Nat → Nat → Int) : List (List Int) := (List.range m).map fun i => mkRow n (f i)
theorem mkRow_len (n : Nat) (f : Nat → Int) : (mkRow n f).length = n := by simp [mkRow]
theorem mkRow_nth {n j : Nat} {f : Nat → Int} (h : j < n) : nth (mkRow n f) j = f j := by simp [nth, mkRow, h]
theorem mkMat_len (m n : Nat) (f : Nat → Nat → Int) : (mkMat m n f).length = m := by simp [mkMat]
theorem mkMat_row {m n i : Nat} {f : Nat → Nat → Int} (h : i < m) : row (mkMat m n f) i = mkRow n (f i) := by simp [row, mkMat, h]
theorem mkMat_ent {m n i j : Nat} {f : Nat → Nat → Int} (hi : i < m) (hj : j < n) : ent (mkMat m n f) i j = f i j := by
  unfold ent; rw [mkMat_row hi, mkRow_nth hj]
theorem mkRow_eq {n : Nat} {f : Nat → Int} {xs : List Int} (hl : xs.length = n) (h : ∀ j, j < n → nth xs j = f j) : xs = mkRow n f :=
  list_ext_nth (by rw [mkRow_len]; exact hl) fun i hi => by rw [mkRow_nth (by omega)]; exact h i (by omega)
theorem mkMat_eq {m n : Nat} {f : Nat → Nat → Int} {M : List (List Int)} (hl : M.length = m) (hr : ∀ i, i < m → (row M i).length = n) (h : ∀ i j, i < m → j < n → ent M i j = f i j) : M = mkMat m n f :=
  list_ext_row (by rw [mkMat_len]; exact hl) fun i hi => by
    rw [mkMat_row (by omega)]; exact mkRow_eq (hr i (by omega)) fun j hj => h i j (by omega) hj
theorem mkMat_congr {m n : Nat} {f g : Nat → Nat → Int} (h : ∀ i j, i < m → j < n → f i j = g i j) : mkMat m n f = mkMat m n g :=
  mkMat_eq (mkMat_len _ _ _) (fun i hi => by rw [mkMat_row hi, mkRow_len]) fun i j hi hj => by rw [mkMat_ent hi hj, h i j hi hj]
theorem nth_set (xs : List Int) (i j : Nat) (x : Int) (hi : i < xs.length) : nth (xs.set i x) j = if j = i then x else nth xs j := by
  unfold nth
  by_cases h : j = i
  · subst h; simp [hi]
  · rw [if_neg h]; simp [List.getD_eq_getElem?_getD, Ne.symm h]

/-- entries of the unit; the greatest of n values; a product's entries -/
def unitF (i j : Nat) : Int := if i = j then 0 else -1000000000000000
def mx : Nat → (Nat → Int) → Int
  | 0, _ => -1000000000000000
  | k + 1, g => max (mx k g) (g k)
theorem mx_congr {n : Nat} {f g : Nat → Int} (h : ∀ i, i < n → f i = g i) : mx n f = mx n g := by
  induction n with
  | zero => rfl
  | succ n ih => simp only [mx]; rw [ih fun i hi => h i (by omega), h n (by omega)]
def mulE (K : Nat) (a b : List (List Int)) (i j : Nat) : Int := mx K fun k => times (ent a i k) (ent b k j)
def addE (a b : List (List Int)) (i j : Nat) : Int := max (ent a i j) (ent b i j)
/-- m rows, n columns -/
def Rect (a : List (List Int)) (m n : Nat) : Prop := a.length = m ∧ ∀ i, i < m → (row a i).length = n
theorem rect_mk (m n : Nat) (f : Nat → Nat → Int) : Rect (mkMat m n f) m n := ⟨mkMat_len _ _ _, fun i hi => by rw [mkMat_row hi, mkRow_len]⟩
theorem isMat_rect {a : List (List Int)} (h : isMat a = true) : Rect a a.length (row a 0).length ∧ 1 ≤ a.length ∧ a.length ≤ 10 ∧ 1 ≤ (row a 0).length ∧ (row a 0).length ≤ 10 := by
  unfold isMat at h
  simp only [Bool.and_eq_true, inR_iff] at h
  obtain ⟨⟨h1, h2⟩, h3⟩ := h
  refine ⟨⟨rfl, fun i hi => ?_⟩, by omega, by omega, by omega, by omega⟩
  have := all_iff_row.1 h3 i hi
  simp [rowOk] at this; exact this.1
theorem isMat_val {a : List (List Int)} (h : isMat a = true) {i j : Nat} (hi : i < a.length) (hj : j < (row a 0).length) : isVal (ent a i j) = true := by
  have hr := (isMat_rect h).1.2 i hi
  unfold isMat at h
  simp only [Bool.and_eq_true] at h
  have := all_iff_row.1 h.2 i hi
  simp only [rowOk, Bool.and_eq_true] at this
  exact allV_iff.1 this.2 j (by omega)
theorem isSq_mat {a : List (List Int)} (h : isSq a = true) : isMat a = true := by unfold isSq at h; simp at h; exact h.1
theorem isSq_rect {a : List (List Int)} (h : isSq a = true) : Rect a a.length a.length ∧ 1 ≤ a.length ∧ a.length ≤ 10 := by
  have h0 := isMat_rect (isSq_mat h)
  unfold isSq at h
  simp at h
  obtain ⟨h1, h2, h3, _⟩ := h0
  exact ⟨⟨rfl, fun i hi => by rw [h1.2 i hi]; exact h.2.symm⟩, h2, h3⟩
theorem isSq_val {a : List (List Int)} (h : isSq a = true) {i j : Nat} (hi : i < a.length) (hj : j < a.length) : isVal (ent a i j) = true := by
  have := isSq_rect h
  exact isMat_val (isSq_mat h) hi (by rw [this.1.2 0 (by omega)]; exact hj)

def rowBad (n : Nat) (r : List Int) : Bool := r.length != n || !allV r
theorem rowBad_ok (n : Nat) (r : List Int) : rowBad n r = !rowOk n r := by
  unfold rowBad rowOk; simp [bne]
theorem any_bad (m : List (List Int)) (n : Nat) : m.any (rowBad n) = !m.all (rowOk n) := by
  rw [List.all_eq_not_any_not]; simp; congr 1; funext r; exact rowBad_ok n r
/-- all entries are values -/
def allM (m : List (List Int)) : Bool := m.all allV
theorem any_iff_row {m : List (List Int)} {p : List Int → Bool} {i : Nat} (hi : i < m.length) (h : p (row m i) = true) : m.any p = true := by
  rw [List.any_eq_true]; rw [row_of_lt hi] at h; exact ⟨_, List.getElem_mem hi, h⟩
theorem any_no_row {m : List (List Int)} {p : List Int → Bool} (h : ∀ i, i < m.length → p (row m i) = false) : m.any p = false := by
  rw [Bool.eq_false_iff]; intro e
  rw [List.any_eq_true] at e
  obtain ⟨x, hx, hp⟩ := e
  obtain ⟨i, hi, rfl⟩ := List.getElem_of_mem hx
  have := h i hi
  rw [row_of_lt hi] at this
  rw [this] at hp; simp at hp

end Go.Proofs.Ytljchmkoafahgaa
