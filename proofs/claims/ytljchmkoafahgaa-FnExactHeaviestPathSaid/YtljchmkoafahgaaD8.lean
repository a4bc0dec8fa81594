/- Contracts of l03Draw and of the draws that rest on it. Conditions: the source reads. -/
import Derived.Test.YtljchmkoafahgaaD7
import Derived.Deep.CutRange
import Derived.Deep.RegionWith
namespace Go.Proofs.Ytljchmkoafahgaa
set_option linter.unusedVariables false
set_option linter.unusedSimpArgs false
open Go.RowKit

theorem OwnI.farD {w : World} {B g : Nat} {v : Value} {xs : List Int} (h : OwnI w B v xs) (hg : g < B) (j : Nat) (u : Value) : OwnI (w.setCell ⟨g, j, none⟩ u) B v xs :=
  h.chg (Chg.set w ⟨g, j, none⟩ u) fun k hk e => by have := h.base k hk; simp only at e; omega
/-- blocks from B up to N are as they were -/
def Same (B N : Nat) (w w' : World) : Prop := ∀ k, B ≤ k → k < N → w'.heap[k]? = w.heap[k]?
theorem Same.drawn {B N b : Nat} {w w1 w2 : World} (h : Same B N w w1) (hb : b < B) (hN : N ≤ w1.heap.size) (g : w1.grownBy w2 (some b)) : Same B N w w2 := fun k h1 h2 =>
  (g.block k (by omega) (fun e => by simp only [Option.some.injEq] at e; omega)).trans (h k h1 h2)
theorem Same.app {B N : Nat} {w w1 w2 : World} {v : Value} {xs : List Int} (h : Same B N w w1) (hN : N ≤ w1.heap.size) (hO : OwnI w1 N v xs) {o : Obj} (g : (w1.alloc o).grownBy w2 v.ownBlock) : Same B N w w2 := fun k h1 h2 => by
  rw [g.block k (by have := ((Ext.refl w1).alloc o).size; omega) (fun e => by have := hO.base k e.symm; omega), Below.block ((Ext.refl w1).alloc o) k (by omega)]
  exact h k h1 h2
theorem isSq_shape {M : List (List Int)} (h : isSq M = true) : Rect M M.length M.length ∧ 1 ≤ M.length ∧ M.length ≤ 10 := isSq_rect h

end Go.Proofs.Ytljchmkoafahgaa
