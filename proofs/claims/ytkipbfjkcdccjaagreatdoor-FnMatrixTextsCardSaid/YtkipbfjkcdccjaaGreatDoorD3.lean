/- Contract of DrawSumOf: a list in new memory. Condition: the code reads. -/
import Derived.Test.YtkipbfjkcdccjaaGreatDoorD1
import Derived.Test.YtkipbfjkcdccjaaGreatDoorGB
import Derived.Deep.AppendLies
namespace Go.Proofs.YtkipbfjkcdccjaaGreatDoor
set_option linter.unusedVariables false
set_option linter.unusedSimpArgs false
open Go.RowKit

/-- an append to a row behind the source leaves the source -/
theorem Src.row {w w' : World} {b : Nat} {r : Option Nat} (h : Src w b) (g : w.grownBy w' r) (hr : ∀ k, r = some k → b < k) : Src w' b := by
  obtain ⟨ca, cc, bs, t, s, hX⟩ := h
  have hlt := hX.lt
  have hb : ∀ i, w'.cell? ⟨b, i, none⟩ = w.cell? ⟨b, i, none⟩ := fun i => g.cell_far _ hlt (fun e => by have := hr b e.symm; omega)
  have hf : ∀ i, w'.frozen? ⟨b, i, none⟩ = w.frozen? ⟨b, i, none⟩ := fun i => g.frozen_far _ hlt (fun e => by have := hr b e.symm; omega)
  refine ⟨ca, cc, bs, t, s, (hb 0).trans hX.c0, (hb 1).trans hX.c1, (hb 2).trans hX.c2, (hf 1).trans hX.f1, (hf 2).trans hX.f2, hX.ht, hX.hs, hX.bytes.of fun hn b' o u ha i hv => ?_, hX.ne⟩
  have hbb := hX.ne hn b' o ha
  rw [g.cell_far ⟨b', o + i, none⟩ (by show b' < _; omega) (fun e => by have := hr b' e.symm; omega)]
  exact hv
theorem Src.lt {w : World} {b : Nat} (h : Src w b) : b < w.heap.size := by obtain ⟨ca, cc, bs, t, s, hX⟩ := h; exact hX.lt
/-- a list behind the source is not touched by drawing -/
theorem OwnI.drawn {w w' : World} {b : Nat} {v : Value} {xs : List Int} (h : OwnI w (b + 1) v xs) (g : w.grownBy w' (some b)) : OwnI w' (b + 1) v xs :=
  h.agree fun k hk => g.block k (h.lt hk).2 fun e => by have := (h.lt hk).1; simp only [Option.some.injEq] at e; omega
theorem OwnM.drawn {w w' : World} {b : Nat} {v : Value} {m : List (List Int)} (h : OwnM w (b + 1) v m) (g : w.grownBy w' (some b)) : OwnM w' (b + 1) v m :=
  h.agree fun k h1 h2 => g.block k h2 fun e => by simp only [Option.some.injEq] at e; omega

end Go.Proofs.YtkipbfjkcdccjaaGreatDoor
