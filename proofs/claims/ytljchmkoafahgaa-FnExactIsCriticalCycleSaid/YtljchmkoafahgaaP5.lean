/- Plain words for products, powers, shifts, paths and cycles of matrices. No program in sight. -/
import Derived.Test.YtljchmkoafahgaaP4
namespace Go.Proofs.Ytljchmkoafahgaa
set_option linter.unusedVariables false

theorem ent_out {x : List (List Int)} {m n : Nat} (r : Rect x m n) {i j : Nat} (h : ¬ (i < m ∧ j < n)) : ent x i j = 0 := by
  unfold ent
  by_cases hi : i < m
  · have : ¬ j < (row x i).length := by rw [r.2 i hi]; exact fun e => h ⟨hi, e⟩
    unfold nth; simp [List.getD_eq_getElem?_getD, List.getElem?_eq_none (Nat.not_lt.1 this)]
  · have : row x i = [] := by unfold row; simp [List.getD_eq_getElem?_getD, List.getElem?_eq_none (show x.length ≤ i by rw [r.1]; omega)]
    rw [this]; rfl
theorem nth_out {xs : List Int} {i : Nat} (h : xs.length ≤ i) : nth xs i = 0 := by unfold nth; simp [List.getD_eq_getElem?_getD, List.getElem?_eq_none h]

/-- all entries lie between -B and B -/
def EBd (B : Int) (x : List (List Int)) : Prop := ∀ i j, -B ≤ ent x i j ∧ ent x i j ≤ B
def VBd (B : Int) (x : List Int) : Prop := ∀ i, -B ≤ nth x i ∧ nth x i ≤ B
theorem EBd.mono {B C : Int} {x : List (List Int)} (h : EBd B x) (e : B ≤ C) : EBd C x := fun i j => by have := h i j; omega
theorem VBd.mono {B C : Int} {x : List Int} (h : VBd B x) (e : B ≤ C) : VBd C x := fun i => by have := h i; omega
theorem ebd_mk {m n : Nat} {f : Nat → Nat → Int} {B : Int} (h0 : 0 ≤ B) (h : ∀ i j, i < m → j < n → -B ≤ f i j ∧ f i j ≤ B) : EBd B (mkMat m n f) := fun i j => by
  by_cases e : i < m ∧ j < n
  · rw [mkMat_ent e.1 e.2]; exact h i j e.1 e.2
  · rw [ent_out (rect_mk m n f) e]; omega
theorem vbd_mk {n : Nat} {f : Nat → Int} {B : Int} (h0 : 0 ≤ B) (h : ∀ i, i < n → -B ≤ f i ∧ f i ≤ B) : VBd B (mkRow n f) := fun i => by
  by_cases e : i < n
  · rw [mkRow_nth e]; exact h i e
  · rw [nth_out (by rw [mkRow_len]; omega)]; omega
theorem isMat_ebd {x : List (List Int)} (h : isMat x = true) : EBd 1000000000000000 x := fun i j => by
  by_cases e : i < x.length ∧ j < (row x 0).length
  · have := isVal_bd (isMat_val h e.1 e.2); omega
  · rw [ent_out (isMat_rect h).1 e]; omega
theorem isVec_vbd {x : List Int} (h : isVec x = true) : VBd 1000000000000000 x := fun i => by
  unfold isVec at h
  simp only [Bool.and_eq_true] at h
  by_cases e : i < x.length
  · have := isVal_bd (allV_iff.1 h.2 i e); omega
  · rw [nth_out (by omega)]; omega
theorem isVec_len {x : List Int} (h : isVec x = true) : 1 ≤ x.length ∧ x.length ≤ 10 := by
  unfold isVec at h
  simp only [Bool.and_eq_true, inR_iff] at h
  omega

theorem isMat_mk {m n : Nat} (f : Nat → Nat → Int) (h1 : 1 ≤ m) (h2 : m ≤ 10) (h3 : 1 ≤ n) (h4 : n ≤ 10) : isMat (mkMat m n f) = allM (mkMat m n f) := by
  have hr : (row (mkMat m n f) 0).length = n := (rect_mk m n f).2 0 (by omega)
  unfold isMat allM
  rw [mkMat_len, hr, inR_iff.2 (by omega), inR_iff.2 (by omega)]
  simp only [Bool.true_and]
  rw [Bool.eq_iff_iff, all_iff_row, all_iff_row]
  have hl : ∀ i, i < (mkMat m n f).length → (row (mkMat m n f) i).length = n := fun i hi => (rect_mk m n f).2 i (by rw [mkMat_len] at hi; exact hi)
  constructor
  · intro h i hi; have := h i hi; unfold rowOk at this; rw [Bool.and_eq_true] at this; exact this.2
  · intro h i hi; unfold rowOk; rw [hl i hi, h i hi]; simp
theorem isVec_mk {n : Nat} (f : Nat → Int) (h1 : 1 ≤ n) (h2 : n ≤ 10) : isVec (mkRow n f) = allV (mkRow n f) := by
  unfold isVec; rw [mkRow_len, inR_iff.2 (by omega)]; simp

/-- a matrix that is checked -/
def chkM (p : List (List Int)) : List (List Int) × Int := if allM p then (p, 0) else ([], 3)
def chkX (p : List Int) : List Int × Int := if allV p then (p, 0) else ([], 3)
theorem chkM_tot {p : List (List Int)} (h : tot p ≤ 1000000) : tot (chkM p).1 ≤ 1000000 := by unfold chkM; split <;> simp_all [tot]
theorem chkX_len {p : List Int} (h : p.length ≤ 1000000) : (chkX p).1.length ≤ 1000000 := by unfold chkX; split <;> simp_all

def mulV (x y : List (List Int)) : List (List Int) × Int :=
  if isMat x && isMat y then (if (row x 0).length = y.length then chkM (mkMat x.length (row y 0).length (mulE y.length x y)) else ([], 5)) else ([], 1)
theorem mulV_tot (x y : List (List Int)) : tot (mulV x y).1 ≤ 1000000 := by
  unfold mulV
  split
  · rename_i h
    rw [Bool.and_eq_true] at h
    have h1 := isMat_rect h.1
    have h2 := isMat_rect h.2
    split
    · exact chkM_tot (tot_small _ (by omega) (by omega))
    · simp [tot]
  · simp [tot]
def appF (n : Nat) (a : List (List Int)) (x : List Int) (i : Nat) : Int := mx n fun k => times (ent a i k) (nth x k)
def appV (a : List (List Int)) (x : List Int) : List Int × Int :=
  if isMat a && isVec x then (if (row a 0).length = x.length then chkX (mkRow a.length (appF x.length a x)) else ([], 5)) else ([], 1)
theorem appV_len (a : List (List Int)) (x : List Int) : (appV a x).1.length ≤ 1000000 := by
  unfold appV
  split
  · rename_i h
    rw [Bool.and_eq_true] at h
    have h1 := isMat_rect h.1
    split
    · exact chkX_len (by rw [mkRow_len]; omega)
    · simp
  · simp

theorem times_bd {a b A B : Int} (ha : -A ≤ a ∧ a ≤ A) (hb : -B ≤ b ∧ b ≤ B) (h : 1000000000000000 ≤ A + B) : -(A + B) ≤ times a b ∧ times a b ≤ A + B := by
  unfold times; split <;> omega
theorem mx_bd {n : Nat} {f : Nat → Int} {B : Int} (hB : 1000000000000000 ≤ B) (h : ∀ i, i < n → -B ≤ f i ∧ f i ≤ B) : -B ≤ mx n f ∧ mx n f ≤ B := by
  induction n with
  | zero => simp only [mx]; omega
  | succ n ih => simp only [mx]; have := ih fun i hi => h i (by omega); have := h n (by omega); omega
theorem mx_ge {n : Nat} {f : Nat → Int} : -1000000000000000 ≤ mx n f := by
  induction n with
  | zero => simp only [mx]; omega
  | succ n ih => simp only [mx]; omega

/-- the powers of a square matrix, as long as all are matrices -/
def powS (n : Nat) (a : List (List Int)) : Nat → Option (List (List Int))
  | 0 => some (mkMat n n unitF)
  | k + 1 => match powS n a k with
    | none => none
    | some p => if allM (mkMat n n (mulE n p a)) then some (mkMat n n (mulE n p a)) else none
def optM : Option (List (List Int)) → List (List Int) × Int
  | none => ([], 3)
  | some p => (p, 0)
def powMV (a : List (List Int)) (n : Int) : List (List Int) × Int :=
  if isMat a then (if inR n 0 100 then (if a.length = (row a 0).length then optM (powS a.length a n.toNat) else ([], 5)) else ([], 2)) else ([], 1)
theorem powS_form {n : Nat} {a : List (List Int)} {k : Nat} {p : List (List Int)} (h : powS n a k = some p) : ∃ f, p = mkMat n n f := by
  cases k with
  | zero => simp only [powS, Option.some.injEq] at h; exact ⟨_, h.symm⟩
  | succ k =>
    simp only [powS] at h
    split at h
    · simp at h
    · split at h
      · simp only [Option.some.injEq] at h; exact ⟨_, h.symm⟩
      · simp at h
theorem allM_unit (n : Nat) : allM (mkMat n n unitF) = true := by
  unfold allM; rw [all_iff_row]; intro i hi
  rw [mkMat_len] at hi
  rw [mkMat_row hi, allV_iff]; intro j hj
  rw [mkRow_len] at hj
  rw [mkRow_nth hj]; unfold unitF; split <;> decide
theorem powS_val {n : Nat} {a : List (List Int)} {k : Nat} {p : List (List Int)} (h : powS n a k = some p) : allM p = true := by
  cases k with
  | zero => simp only [powS, Option.some.injEq] at h; rw [← h]; exact allM_unit n
  | succ k =>
    simp only [powS] at h
    split at h
    · simp at h
    · split at h
      · rename_i e; simp only [Option.some.injEq] at h; rw [← h]; exact e
      · simp at h
theorem powS_mono {n : Nat} {a : List (List Int)} {k : Nat} (h : powS n a k = none) (j : Nat) : powS n a (k + j) = none := by
  induction j with
  | zero => exact h
  | succ j ih => rw [← Nat.add_assoc]; simp only [powS]; rw [ih]
theorem powMV_tot (a : List (List Int)) (n : Int) : tot (powMV a n).1 ≤ 1000000 := by
  unfold powMV
  split
  · rename_i h
    have h1 := isMat_rect h
    split
    · split
      · cases e : powS a.length a n.toNat with
        | none => simp [optM, tot]
        | some p => obtain ⟨f, rfl⟩ := powS_form e; simp only [optM]; exact tot_small _ (by omega) (by omega)
      · simp [tot]
    · simp [tot]
  · simp [tot]
theorem allM_ebd {n : Nat} {p : List (List Int)} (hr : Rect p n n) (h : allM p = true) : EBd 1000000000000000 p := fun i j => by
  by_cases e : i < n ∧ j < n
  · unfold allM at h
    have := isVal_bd (allV_iff.1 (all_iff_row.1 h i (by rw [hr.1]; exact e.1)) j (by rw [hr.2 i e.1]; exact e.2))
    show _ ≤ nth (row p i) j ∧ _
    unfold ent; omega
  · rw [ent_out hr e]; omega

/-- shifted by a ratio -/
def shiftE (x : List (List Int)) (num den : Int) (i j : Nat) : Int := if ent x i j = -1000000000000000 then -1000000000000000 else den * ent x i j - num
theorem shiftE_bd {x : List (List Int)} (hx : isSq x = true) {num den : Int} (hn : -1000000 ≤ num ∧ num ≤ 1000000) (hd : -1000000 ≤ den ∧ den ≤ 1000000) {i j : Nat} (hi : i < x.length) (hj : j < x.length) :
    shiftE x num den i j = -1000000000000000 ∨ (-1000001000000 ≤ shiftE x num den i j ∧ shiftE x num den i j ≤ 1000001000000) := by
  unfold shiftE
  split
  · exact .inl rfl
  · rename_i h
    rcases isVal_iff.1 (isSq_val hx hi hj) with e | e
    · exact absurd e h
    · have := mul_bd hd e; omega
def shiftM (x : List (List Int)) (num den : Int) : List (List Int) := mkMat x.length x.length (shiftE x num den)
theorem shiftM_ebd {x : List (List Int)} (hx : isSq x = true) {num den : Int} (hn : -1000000 ≤ num ∧ num ≤ 1000000) (hd : -1000000 ≤ den ∧ den ≤ 1000000) : EBd 1000000000000000 (shiftM x num den) :=
  ebd_mk (by omega) fun i j hi hj => by rcases shiftE_bd hx hn hd hi hj with h | h <;> omega
def shiftV (x : List (List Int)) (r : Int × Int) : List (List Int) × Int := if isSq x && isRat r then chkM (shiftM x r.1 r.2) else ([], 1)
def stretchV (x : List (List Int)) (n : Int) : List (List Int) × Int := if isSq x then (if inR n 1 1000000 then chkM (shiftM x 0 n) else ([], 2)) else ([], 1)
theorem shiftM_tot {x : List (List Int)} (hx : isSq x = true) (num den : Int) : tot (shiftM x num den) ≤ 1000000 := by
  have := isSq_rect hx; exact tot_small _ (by omega) (by omega)
theorem shiftV_tot (x : List (List Int)) (r : Int × Int) : tot (shiftV x r).1 ≤ 1000000 := by
  unfold shiftV; split
  · rename_i h; rw [Bool.and_eq_true] at h; exact chkM_tot (shiftM_tot h.1 _ _)
  · simp [tot]
theorem stretchV_tot (x : List (List Int)) (n : Int) : tot (stretchV x n).1 ≤ 1000000 := by
  unfold stretchV; split
  · rename_i h; split
    · exact chkM_tot (shiftM_tot h _ _)
    · simp [tot]
  · simp [tot]

/-- the weight of the arcs of a list of nodes up to place k -/
def walkO (a : List (List Int)) (xs : List Int) : Nat → Option Int
  | 0 => some 0
  | k + 1 => match walkO a xs k with
    | none => none
    | some t => if ent a (nth xs (k + 1)).toNat (nth xs k).toNat = -1000000000000000 then none else some (t + ent a (nth xs (k + 1)).toNat (nth xs k).toNat)
theorem walkO_none {a : List (List Int)} {xs : List Int} {k : Nat} (h : walkO a xs k = none) (j : Nat) : walkO a xs (k + j) = none := by
  induction j with
  | zero => exact h
  | succ j ih => rw [← Nat.add_assoc]; simp only [walkO]; rw [ih]
def nodes (n : Nat) (xs : List Int) : Bool := xs.all fun v => inR v 0 ((n : Int) - 1)
theorem nodes_iff {n : Nat} {xs : List Int} : nodes n xs = true ↔ ∀ i, i < xs.length → 0 ≤ nth xs i ∧ nth xs i ≤ (n : Int) - 1 := by
  unfold nodes
  rw [List.all_eq_true]
  constructor
  · intro h i hi; rw [nth_of_lt hi]; exact inR_iff.1 (h _ (List.getElem_mem hi))
  · intro h x hx
    obtain ⟨i, hi, rfl⟩ := List.getElem_of_mem hx
    have := h i hi
    rw [nth_of_lt hi] at this
    exact inR_iff.2 this
theorem nodes_no {n : Nat} {xs : List Int} {i : Nat} (hi : i < xs.length) (h : inR (nth xs i) 0 ((n : Int) - 1) = false) : nodes n xs = false := by
  cases e : nodes n xs
  · rfl
  · have := inR_iff.2 (nodes_iff.1 e i hi); rw [h] at this; cases this
def optV : Option Int → Int × Int
  | none => (0, 4)
  | some t => chkV t
def pathV (a : List (List Int)) (xs : List Int) : Int × Int :=
  if isSq a then (if inR xs.length 1 100 && nodes a.length xs then optV (walkO a xs (xs.length - 1)) else (0, 2)) else (0, 1)
theorem isSq_ebd1 {a : List (List Int)} (h : isSq a = true) {i j : Nat} (hne : ent a i j ≠ -1000000000000000) : -1000000 ≤ ent a i j ∧ ent a i j ≤ 1000000 := by
  by_cases e : i < a.length ∧ j < a.length
  · rcases isVal_iff.1 (isSq_val h e.1 e.2) with e | e
    · exact absurd e hne
    · exact e
  · rw [ent_out (isSq_rect h).1 e]; omega
theorem walkO_bd {a : List (List Int)} (h : isSq a = true) {xs : List Int} {k : Nat} {t : Int} (e : walkO a xs k = some t) : -1000000 * (k : Int) ≤ t ∧ t ≤ 1000000 * (k : Int) := by
  induction k generalizing t with
  | zero => simp only [walkO, Option.some.injEq] at e; omega
  | succ k ih =>
    simp only [walkO] at e
    split at e
    · simp at e
    · rename_i s hs
      split at e
      · simp at e
      · rename_i hne
        simp only [Option.some.injEq] at e
        have := ih hs
        have := isSq_ebd1 h hne
        omega

/-- cycles: all are nodes, none twice, no arc is missing -/
def before (xs : List Int) (i : Nat) : Int := if i = 0 then nth xs (xs.length - 1) else nth xs (i - 1)
def stepOk (a : List (List Int)) (xs : List Int) (i : Nat) : Bool :=
  inR (nth xs i) 0 ((a.length : Int) - 1) && inR (before xs i) 0 ((a.length : Int) - 1) && !(xs.take i).contains (nth xs i) && !(ent a (nth xs i).toNat (before xs i).toNat == -1000000000000000)
/-- the weight up to place k of what impl's loop goes through -/
def cycO (a : List (List Int)) (xs : List Int) : Nat → Option Int
  | 0 => some 0
  | k + 1 => match cycO a xs k with
    | none => none
    | some t => if stepOk a xs k then some (t + ent a (nth xs k).toNat (before xs k).toNat) else none
def cycleO (a : List (List Int)) (xs : List Int) : Option Int := if xs.length = 0 then none else cycO a xs xs.length
theorem cycO_none {a : List (List Int)} {xs : List Int} {k : Nat} (h : cycO a xs k = none) (j : Nat) : cycO a xs (k + j) = none := by
  induction j with
  | zero => exact h
  | succ j ih => rw [← Nat.add_assoc]; simp only [cycO]; rw [ih]
theorem cycO_bd {a : List (List Int)} (h : isSq a = true) {xs : List Int} {k : Nat} {t : Int} (e : cycO a xs k = some t) : -1000000 * (k : Int) ≤ t ∧ t ≤ 1000000 * (k : Int) := by
  induction k generalizing t with
  | zero => simp only [cycO, Option.some.injEq] at e; omega
  | succ k ih =>
    simp only [cycO] at e
    split at e
    · simp at e
    · rename_i s hs
      split at e
      · rename_i hk
        unfold stepOk at hk
        simp only [Bool.and_eq_true, Bool.not_eq_true', beq_eq_false_iff_ne] at hk
        simp only [Option.some.injEq] at e
        have := ih hs
        have := isSq_ebd1 h hk.2
        omega
      · simp at e
def isCycV (a : List (List Int)) (xs : List Int) : Bool := isSq a && (cycleO a xs).isSome
def cycV (a : List (List Int)) (xs : List Int) : Int × Int := if isSq a then optV (cycleO a xs) else (0, 1)
end Go.Proofs.Ytljchmkoafahgaa
