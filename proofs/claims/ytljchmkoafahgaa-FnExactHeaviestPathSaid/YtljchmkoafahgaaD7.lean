/- Contracts of the draws of square matrices and of nodes. Conditions: the source reads. -/
import Derived.Test.YtljchmkoafahgaaD5
namespace Go.Proofs.Ytljchmkoafahgaa
set_option linter.unusedVariables false
set_option linter.unusedSimpArgs false
open Go.RowKit

theorem OwnI.lit2v (w : World) (B : Nat) (x y : Int) (hB : B ≤ w.heap.size) : OwnI (w.alloc (.cells #[.int .i64 x, .int .i64 y] 2)) B (.slice (some ⟨w.heap.size, 0, none⟩) 2 2) [x, y] :=
  World.ownsRow_lit w #[.int .i64 x, .int .i64 y] 2 hB (by decide) rfl
theorem OwnM.lit2v {w : World} {B r s : Nat} {xs ys : List Int} (hB : B ≤ w.heap.size) (h1 : OwnI w B (.slice (some ⟨r, 0, none⟩) 2 2) xs) (h2 : OwnI w B (.slice (some ⟨s, 0, none⟩) 2 2) ys) (hne : r ≠ s) :
    OwnM (w.alloc (.cells #[.slice (some ⟨r, 0, none⟩) 2 2, .slice (some ⟨s, 0, none⟩) 2 2] 32)) B (.slice (some ⟨w.heap.size, 0, none⟩) 2 2) [xs, ys] := by
  have l1 := h1.len
  have l2 := h2.len
  have hE := (Ext.refl w).alloc (.cells #[.slice (some ⟨r, 0, none⟩) 2 2, .slice (some ⟨s, 0, none⟩) 2 2] 32)
  have r0 : row [xs, ys] 0 = xs := rfl
  have r1 : row [xs, ys] 1 = ys := rfl
  refine OwnM.of_hdr (A := fun i => if i = 0 then some ⟨r, 0, none⟩ else some ⟨s, 0, none⟩) (C := fun _ => 2) ?_ (fun i hi => ?_) (fun i j q o o' hi hj hij ha hb => ?_)
  · have e : ((List.range [xs, ys].length).map fun i => Value.slice (if i = 0 then some ⟨r, 0, none⟩ else some ⟨s, 0, none⟩) (row [xs, ys] i).length 2) = [.slice (some ⟨r, 0, none⟩) 2 2, .slice (some ⟨s, 0, none⟩) 2 2] := by
      show [Value.slice _ (row [xs, ys] 0).length 2, Value.slice _ (row [xs, ys] 1).length 2] = _
      rw [r0, r1, ← l1, ← l2]; rfl
    rw [e]
    exact World.ownsRow_lit w #[.slice (some ⟨r, 0, none⟩) 2 2, .slice (some ⟨s, 0, none⟩) 2 2] 2 hB (by decide) rfl
  · have : i = 0 ∨ i = 1 := by simp at hi; omega
    rcases this with rfl | rfl
    · rw [r0, ← l1]; exact h1.ext hE
    · rw [r1, ← l2]; exact h2.ext hE
  · have h1 : i = 0 ∨ i = 1 := by simp at hi; omega
    have h2 : j = 0 ∨ j = 1 := by simp at hj; omega
    rcases h1 with rfl | rfl <;> rcases h2 with rfl | rfl
    · exact hij rfl
    · simp at ha hb
      exact hne (ha.1.trans hb.1.symm)
    · simp at ha hb
      exact hne (hb.1.trans ha.1.symm)
    · exact hij rfl

end Go.Proofs.Ytljchmkoafahgaa
