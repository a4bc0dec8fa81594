/- Contracts of the critical matrix: l06Code, IsCriticalCycle, criticalMatrix, criticalOf. Conditions: the forms of the matrices. -/
import Derived.Test.YtokhkpbebimohaaGF
import Derived.Test.YtokhkpbebimohaaGL
import Derived.Test.YtokhkpbebimohaaM14
import Derived.Deep.RegionHeld3
namespace Go.Proofs.Ytokhkpbebimohaa
set_option linter.unusedVariables false
set_option linter.unusedSimpArgs false
open Go.RowKit

def codeV (x : List (List Int)) : Int := if isSq x then (if (bestO x x.length).isSome then 0 else 4) else 1
def critCO (n : Nat) (R : Int × Int) : Option Int → Bool
  | none => false
  | some t => decide (ratOf t n = R)
def critCV (x : List (List Int)) (xs : List Int) : Bool × Int := if isSq x then (match bestO x x.length with | none => (false, 4) | some R => (critCO xs.length R (cycleO x xs), 0)) else (false, 1)
def critV (x : List (List Int)) : List (List Int) × Int := if isSq x then (match bestO x x.length with | none => ([], 4) | some R => (critM x R, 0)) else ([], 1)
theorem critV_tot (x : List (List Int)) : tot (critV x).1 ≤ 1000000 := by
  unfold critV
  split
  · rename_i h
    have := isSq_rect h
    split
    · simp [tot]
    · exact tot_small _ (by omega) (by omega)
  · simp [tot]
theorem keepQ {W w' : World} {p q : Addr} {x y : Value} (c0 : W.cell? p = some x) (c1 : W.cell? q = some y) (h : Ext W w') : Ext W w' ∧ w'.cell? p = some x ∧ w'.cell? q = some y := ⟨h, h.cell c0, h.cell c1⟩
/-- a variable of one cell is made and written -/
theorem box_putS (w : World) (z v : Value) (t : TypeId) : ∃ W, w.alloc (.cells #[z] t) = W ∧ W.cell? ⟨w.heap.size, 0, none⟩ = some z ∧ W.frozen? ⟨w.heap.size, 0, none⟩ = false ∧ (W.setCell ⟨w.heap.size, 0, none⟩ v).cell? ⟨w.heap.size, 0, none⟩ = some v ∧ Ext w W ∧ Ext w (W.setCell ⟨w.heap.size, 0, none⟩ v) := by
  have h0 : (w.alloc (.cells #[z] t)).cell? ⟨w.heap.size, 0, none⟩ = some z := by simp
  exact ⟨_, rfl, h0, by simp, World.cell?_setCell_same _ _ _ h0, (Ext.refl w).alloc _, ((Ext.refl w).alloc _).set (Nat.le_refl _) _⟩

theorem cycleMean_none (a : Option Addr) (ca : Nat) (x : List (List Int)) (w : World) (hx : MatAt w a x) (hs : isSq x = true) (hb : bestO x x.length = none) :
    Calls Try.prog 104 #[.slice a x.length ca] w fun e w' => e = .returned (.tuple #[.agg #[.int .i64 (((0, 0) : Int × Int)).1, .int .i64 (((0, 0) : Int × Int)).2], .bool false]) ∧ Ext w w' := by
  have := cycleMean_c a ca x w hx hs
  rw [hb] at this
  exact this
theorem cycleMean_some (a : Option Addr) (ca : Nat) (x : List (List Int)) (w : World) (hx : MatAt w a x) (hs : isSq x = true) {R : Int × Int} (hb : bestO x x.length = some R) :
    Calls Try.prog 104 #[.slice a x.length ca] w fun e w' => e = .returned (.tuple #[.agg #[.int .i64 (R).1, .int .i64 (R).2], .bool true]) ∧ Ext w w' := by
  have := cycleMean_c a ca x w hx hs
  rw [hb] at this
  exact this
end Go.Proofs.Ytokhkpbebimohaa
