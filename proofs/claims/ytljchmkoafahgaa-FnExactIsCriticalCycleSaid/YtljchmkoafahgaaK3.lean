/- Plain words: what StarMatrix, PlusMatrix, FixedPoint and PotentialOf hand back. No program in sight. -/
import Derived.Test.YtljchmkoafahgaaK2
namespace Go.Proofs.Ytljchmkoafahgaa
set_option linter.unusedVariables false

theorem isSq_abd {x : List (List Int)} (h : isSq x = true) : ABd (ent x) x.length 1000000 :=
  ⟨by omega, fun i j hne => isSq_ebd1 h hne, by have := isSq_rect h; omega⟩
theorem shiftM_abd {x : List (List Int)} (h : isSq x = true) {num den : Int} (hn : -1000000 ≤ num ∧ num ≤ 1000000) (hd : -1000000 ≤ den ∧ den ≤ 1000000) : ABd (ent (shiftM x num den)) x.length 1000001000000 := by
  have hr := isSq_rect h
  refine ⟨by omega, fun i j hne => ?_, by omega⟩
  by_cases e : i < x.length ∧ j < x.length
  · have he : ent (shiftM x num den) i j = shiftE x num den i j := mkMat_ent e.1 e.2
    rw [he] at hne ⊢
    rcases shiftE_bd h hn hd e.1 e.2 with b | b
    · exact absurd b hne
    · exact b
  · have h0 : ent (shiftM x num den) i j = 0 := ent_out (rect_mk x.length x.length (shiftE x num den)) e
    omega
/-- the star of the matrix y with n rows -/
def starM (y : List (List Int)) (n : Nat) : List (List Int) := mkMat n n (fwS (ent y) n)
theorem starM_rect (y : List (List Int)) (n : Nat) : Rect (starM y n) n n := rect_mk _ _ _
theorem starM_ebd {y : List (List Int)} {n : Nat} {M : Int} (h : ABd (ent y) n M) (hs : starB (ent y) n = true) : EBd 1000000000000000 (starM y n) := by
  unfold starB at hs
  rw [Bool.and_eq_true] at hs
  exact ebd_mk (by omega) fun i j hi hj => by have := fw_bd h (Nat.le_refl n) hs.1 hi hj; omega
def starV (x : List (List Int)) : List (List Int) × Int := if isSq x then (if starB (ent x) x.length then chkM (starM x x.length) else ([], 5)) else ([], 1)
def plusV (x : List (List Int)) : List (List Int) × Int := if isSq x then (if starB (ent x) x.length then chkM (mkMat x.length x.length (mulE x.length x (starM x x.length))) else ([], 5)) else ([], 1)
def fixV (x : List (List Int)) (b : List Int) : List Int × Int :=
  if isSq x && isVec b then (if starB (ent x) x.length && x.length == b.length then chkX (mkRow x.length (appF x.length (starM x x.length) b)) else ([], 5)) else ([], 1)
def zeros (n : Nat) : List Int := List.replicate n 0
def potV (x : List (List Int)) (r : Int × Int) : List Int × Int :=
  if isSq x && isRat r then (if starB (ent (shiftM x r.1 r.2)) x.length then chkX (mkRow x.length (appF x.length (starM (shiftM x r.1 r.2) x.length) (zeros x.length))) else ([], 5)) else ([], 1)
theorem starV_tot (x : List (List Int)) : tot (starV x).1 ≤ 1000000 := by
  unfold starV; split
  · rename_i h
    have := isSq_rect h
    split
    · exact chkM_tot (tot_small _ (by omega) (by omega))
    · simp [tot]
  · simp [tot]
theorem plusV_tot (x : List (List Int)) : tot (plusV x).1 ≤ 1000000 := by
  unfold plusV; split
  · rename_i h
    have := isSq_rect h
    split
    · exact chkM_tot (tot_small _ (by omega) (by omega))
    · simp [tot]
  · simp [tot]
theorem fixV_len (x : List (List Int)) (b : List Int) : (fixV x b).1.length ≤ 1000000 := by
  unfold fixV; split
  · rename_i h
    rw [Bool.and_eq_true] at h
    have := isSq_rect h.1
    split
    · exact chkX_len (by rw [mkRow_len]; omega)
    · simp
  · simp
theorem potV_len (x : List (List Int)) (r : Int × Int) : (potV x r).1.length ≤ 1000000 := by
  unfold potV; split
  · rename_i h
    rw [Bool.and_eq_true] at h
    have := isSq_rect h.1
    split
    · exact chkX_len (by rw [mkRow_len]; omega)
    · simp
  · simp
theorem zeros_nth {n i : Nat} : nth (zeros n) i = 0 := by
  unfold nth zeros; simp [List.getD_eq_getElem?_getD, List.getElem?_replicate]; split <;> rfl
theorem zeros_vbd (n : Nat) : VBd 1000000000000000 (zeros n) := fun i => by rw [zeros_nth]; omega
/-- the potentials are at least 0: never Bottom -/
theorem pot_nonneg {y : List (List Int)} {n : Nat} {M : Int} (h : ABd (ent y) n M) (hs : starB (ent y) n = true) {i : Nat} (hi : i < n) : 0 ≤ appF n (starM y n) (zeros n) i := by
  have hsd := hs
  unfold starB at hsd
  rw [Bool.and_eq_true] at hsd
  have hd := (fw_inv h n (Nat.le_refl n) hsd.1).diag i hi
  have h1 := (mx_spec (n := n) (f := fun k => times (ent (starM y n) i k) (nth (zeros n) k))).2 i hi
  have he : ent (starM y n) i i = fwS (ent y) n i i := mkMat_ent hi hi
  have et : times (ent (starM y n) i i) (nth (zeros n) i) = fwS (ent y) n i i := by rw [he, zeros_nth]; unfold times; rw [if_neg (by omega)]; omega
  simp only [et] at h1
  unfold appF
  omega
theorem pot_all {y : List (List Int)} {n : Nat} {M : Int} (h : ABd (ent y) n M) (hs : starB (ent y) n = true) : allF (mkRow n (appF n (starM y n) (zeros n))) = allV (mkRow n (appF n (starM y n) (zeros n))) := by
  rw [Bool.eq_iff_iff, allF_iff, allV_iff]
  constructor
  · intro e i hi; have := fin_iff.1 (e i hi); rw [isVal_iff]; omega
  · intro e i hi
    have h1 := isVal_iff.1 (e i hi)
    rw [mkRow_len] at hi
    have h2 := pot_nonneg h hs hi
    rw [mkRow_nth hi] at h1 ⊢
    rw [fin_iff]; omega
end Go.Proofs.Ytljchmkoafahgaa
