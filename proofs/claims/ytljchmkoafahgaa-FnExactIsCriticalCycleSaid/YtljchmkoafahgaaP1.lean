/- Plain arithmetic of values and ratios: definitions and lemmas, no program. -/
namespace Go.Proofs.Ytljchmkoafahgaa
set_option linter.unusedVariables false

def inR (n lo hi : Int) : Bool := decide (lo ≤ n) && decide (n ≤ hi)
theorem inR_iff {n lo hi : Int} : inR n lo hi = true ↔ lo ≤ n ∧ n ≤ hi := by simp [inR]
theorem inR_not {n lo hi : Int} : inR n lo hi = false ↔ n < lo ∨ hi < n := by simp [inR]; omega
def fin (n : Int) : Bool := inR n (-1000000) 1000000
theorem fin_iff {n : Int} : fin n = true ↔ -1000000 ≤ n ∧ n ≤ 1000000 := inR_iff
theorem fin_not {n : Int} : fin n = false ↔ n < -1000000 ∨ 1000000 < n := inR_not
/-- Bottom -/
def BOT : Int := -1000000000000000
theorem BOT_eq : BOT = -1000000000000000 := rfl
def isVal (a : Int) : Bool := a == -1000000000000000 || fin a
theorem isVal_iff {a : Int} : isVal a = true ↔ a = -1000000000000000 ∨ (-1000000 ≤ a ∧ a ≤ 1000000) := by simp [isVal, fin_iff]
theorem isVal_bd {a : Int} (h : isVal a = true) : -1000000000000000 ≤ a ∧ a ≤ 1000000 := by
  rcases isVal_iff.1 h with rfl | h <;> omega

/-- the product of two values -/
def times (a b : Int) : Int := if a = -1000000000000000 ∨ b = -1000000000000000 then -1000000000000000 else a + b
/-- a number if it is a value, and the code -/
def chkV (n : Int) : Int × Int := if isVal n then (n, 0) else (0, 3)
def absI (n : Int) : Int := if n < 0 then -n else n
theorem absI_nonneg (n : Int) : 0 ≤ absI n := by unfold absI; split <;> omega
theorem absI_bd (n A : Int) (h : -A ≤ n ∧ n ≤ A) : 0 ≤ absI n ∧ absI n ≤ A := by unfold absI; split <;> omega
theorem absI_natAbs (n : Int) : absI n = (n.natAbs : Int) := by unfold absI; split <;> omega
/-- the greatest common divisor, of numbers of at least 0 -/
def gcdI (a b : Int) : Int := (Int.gcd a b : Int)
theorem gcdI_nonneg (a b : Int) : 0 ≤ gcdI a b := by unfold gcdI; omega
theorem gcdI_zero {a b : Int} (ha : 0 ≤ a) (hb : b ≤ 0) (hb' : 0 ≤ b) : gcdI a b = a := by
  obtain rfl : b = 0 := by omega
  simp [gcdI]; omega
theorem gcdI_step {a b : Int} (ha : 0 ≤ a) (hb : 0 < b) : gcdI b (a % b) = gcdI a b := by
  obtain ⟨x, rfl⟩ := Int.eq_ofNat_of_zero_le ha
  obtain ⟨y, rfl⟩ := Int.eq_ofNat_of_zero_le (Int.le_of_lt hb)
  unfold gcdI
  rw [← Int.natCast_emod]
  simp only [Int.gcd, Int.natAbs_natCast]
  rw [Nat.gcd_comm x y, Nat.gcd_rec y x, Nat.gcd_comm]
theorem gcdI_le {a b : Int} (hb : 0 < b) : 0 < gcdI a b ∧ gcdI a b ≤ b := by
  unfold gcdI
  have h1 : 0 < Int.gcd a b := Int.gcd_pos_of_ne_zero_right a (by omega)
  have h2 : (Int.gcd a b : Int) ∣ b := Int.gcd_dvd_right ..
  exact ⟨by omega, Int.le_of_dvd hb h2⟩
theorem gcdI_negl (a b : Int) : gcdI (-a) b = gcdI a b := by unfold gcdI; simp
theorem gcdI_negr (a b : Int) : gcdI a (-b) = gcdI a b := by unfold gcdI; simp
theorem gcdI_abs (a b : Int) : gcdI (absI a) b = gcdI a b := by
  unfold gcdI; rw [absI_natAbs]; simp [Int.gcd]


/-- the ratio of two numbers in lowest terms; the second is not 0 -/
def sgnR (num den : Int) : Int × Int := if den < 0 then (-num, -den) else (num, den)
def ratOf (num den : Int) : Int × Int :=
  ((sgnR num den).1.tdiv (gcdI (sgnR num den).1 (sgnR num den).2), (sgnR num den).2.tdiv (gcdI (sgnR num den).1 (sgnR num den).2))
/-- a ratio is valid -/
def isRat (r : Int × Int) : Bool := fin r.1 && inR r.2 1 1000000 && gcdI r.1 r.2 == 1
/-- two ratios compared by cross products -/
def cmpI (x y : Int) : Int := if x < y then -1 else if y < x then 1 else 0
def cmpR (a b : Int × Int) : Int := cmpI (a.1 * b.2) (b.1 * a.2)
def chkR (r : Int × Int) : (Int × Int) × Int := if isRat r then (r, 0) else ((0, 0), 3)

theorem mul_bd {a b A B : Int} (ha : -A ≤ a ∧ a ≤ A) (hb : -B ≤ b ∧ b ≤ B) : -(A * B) ≤ a * b ∧ a * b ≤ A * B := by
  have h1 : a.natAbs ≤ A.natAbs := by omega
  have h2 : b.natAbs ≤ B.natAbs := by omega
  have h3 : (a * b).natAbs ≤ (A * B).natAbs := by rw [Int.natAbs_mul, Int.natAbs_mul]; exact Nat.mul_le_mul h1 h2
  have h4 : 0 ≤ A * B := Int.mul_nonneg (by omega) (by omega)
  omega
theorem tdiv_bd {a b A : Int} (ha : -A ≤ a ∧ a ≤ A) : -A ≤ a.tdiv b ∧ a.tdiv b ≤ A := by
  have h1 : (a.tdiv b).natAbs ≤ a.natAbs := by
    rw [Int.natAbs_tdiv]; exact Nat.div_le_self ..
  omega

/-- what the exported functions over numbers return -/
def quotV (a b : Int) : Int × Int :=
  if isVal a && isVal b then (if b = -1000000000000000 then (0, 5) else if a = -1000000000000000 then (-1000000000000000, 0) else chkV (a - b)) else (0, 1)
def prodV (a b : Int) : Int × Int := if isVal a && isVal b then chkV (times a b) else (0, 1)
def powV (a n : Int) : Int × Int :=
  if isVal a then (if inR n 0 1000000 then (if n = 0 then (0, 0) else if a = -1000000000000000 then (-1000000000000000, 0) else chkV (a * n)) else (0, 2)) else (0, 1)
/-- a ratio and a code -/
def mkRat (num den : Int) : (Int × Int) × Int := if fin num && fin den then (if den = 0 then ((0, 0), 5) else (ratOf num den, 0)) else ((0, 0), 1)
def cmpRV (a b : Int × Int) : Int × Int := if isRat a && isRat b then (cmpR a b, 0) else (0, 1)
theorem isRat_bd {a b : Int} (h : isRat (a, b) = true) : (-1000000000 ≤ a ∧ a ≤ 1000000000) ∧ (-1000000000 ≤ b ∧ b ≤ 1000000000) := by
  simp [isRat, fin_iff, inR_iff] at h; omega
theorem chkV_fin {n : Int} (h : -1000000000000000 < n) : chkV n = if fin n then (n, 0) else (0, 3) := by
  unfold chkV isVal
  have : (n == -1000000000000000) = false := by rw [beq_eq_false_iff_ne]; omega
  rw [this]; simp

end Go.Proofs.Ytljchmkoafahgaa
