/- Contracts of isPotential, l04Holds, and of the parts of StretchMatrix and ShiftMatrix. Conditions: the forms of the matrices. -/
import Derived.Test.YtljchmkoafahgaaM12
import Derived.Test.YtljchmkoafahgaaM9
import Derived.Test.YtljchmkoafahgaaM5
import Derived.Test.YtljchmkoafahgaaS2
namespace Go.Proofs.Ytljchmkoafahgaa
set_option linter.unusedVariables false
set_option linter.unusedSimpArgs false
open Go.RowKit

/-- x is a potential of the shifted matrix -/
def potAt (x : List (List Int)) (num den : Int) (xs : List Int) (i j : Nat) : Bool := shiftE x num den i j == -1000000000000000 || decide (shiftE x num den i j + nth xs j ≤ nth xs i)
def potB (x : List (List Int)) (num den : Int) (xs : List Int) : Bool := (List.range x.length).all fun i => (List.range x.length).all fun j => potAt x num den xs i j
theorem potB_iff {x : List (List Int)} {num den : Int} {xs : List Int} : potB x num den xs = true ↔ ∀ i j, i < x.length → j < x.length → potAt x num den xs i j = true := by
  unfold potB
  simp only [List.all_eq_true, List.mem_range]
  exact ⟨fun h i j hi hj => h i hi j hj, fun h i hi j hj => h i j hi hj⟩
theorem potB_no {x : List (List Int)} {num den : Int} {xs : List Int} {i j : Nat} (hi : i < x.length) (hj : j < x.length) (h : potAt x num den xs i j = false) : potB x num den xs = false := by
  cases e : potB x num den xs
  · rfl
  · have := potB_iff.1 e i j hi hj; rw [h] at this; cases this
def potL (x : List (List Int)) (num den : Int) (xs : List Int) : Bool := (xs.length == x.length) && inAll (-1000000) 1000000 xs && potB x num den xs
def isPotV (x : List (List Int)) (r : Int × Int) (xs : List Int) : Bool := isSq x && isRat r && potL x r.1 r.2 xs
theorem allF_in (xs : List Int) : allF xs = inAll (-1000000) 1000000 xs := rfl
theorem isRat_bd2 {r : Int × Int} (h : isRat r = true) : (-1000000 ≤ r.1 ∧ r.1 ≤ 1000000) ∧ (1 ≤ r.2 ∧ r.2 ≤ 1000000) := by
  unfold isRat at h
  simp only [Bool.and_eq_true, fin_iff, inR_iff] at h
  exact ⟨h.1.1, h.1.2⟩
theorem shiftM_ent {x : List (List Int)} {num den : Int} {i j : Nat} (hi : i < x.length) (hj : j < x.length) : ent (shiftM x num den) i j = shiftE x num den i j := mkMat_ent hi hj
theorem shiftM_rect (x : List (List Int)) (num den : Int) : Rect (shiftM x num den) x.length x.length := rect_mk _ _ _
/-- both bounds of a sum in the loop -/
theorem pot_wrap {z u : Int} (hz : -1000001000000 ≤ z ∧ z ≤ 1000001000000) (hu : -1000000 ≤ u ∧ u ≤ 1000000) : IntKind.i64.wrap (z + u) = z + u := IntWalk.i64_in _ (by omega)

end Go.Proofs.Ytljchmkoafahgaa
