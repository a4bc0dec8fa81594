/- The walk of the law over reading matrices. What the library reads lies in memory. -/
import Derived.Test.YtkipbfjkcdccjaaGreatDoorT11
import Derived.Test.YtkipbfjkcdccjaaGreatDoorGB
namespace Go.Proofs.YtkipbfjkcdccjaaGreatDoor
set_option linter.unusedVariables false
open Go.RowKit

def rdMV (l : List UInt8) : List (List Int) := if rdM l then mtV l else []
theorem rdMV_mat {l : List UInt8} (h : rdM l = true) : rdMV l = mtV l := if_pos h
theorem rdMV_tot (l : List UInt8) : tot (rdMV l) ≤ 1000000 := by
  unfold rdMV
  split
  · rename_i h
    unfold rdM at h
    simp only [Bool.and_eq_true] at h
    obtain ⟨h1, h2, h3⟩ := isMat_mem h.2
    have key : ∀ (ms : List (List Int)), (∀ x ∈ ms, x.length ≤ 10) → tot ms ≤ 10 * ms.length := fun ms => by
      induction ms with
      | nil => intro _; simp [tot]
      | cons x ms ih =>
        intro hx
        have := ih fun y hy => hx y (List.mem_cons_of_mem _ hy)
        have := hx x List.mem_cons_self
        simp only [tot, List.length_cons]
        omega
    have := key _ fun x hx => (h3 x hx).2.1
    omega
  · simp [tot]
/-- a call that hands back a matrix and a sign -/
def GivesB (w : World) (m : List (List Int)) (ok : Bool) (e : Ending) (w' : World) : Prop := ∃ a cap, e = .returned (.tuple #[.slice a m.length cap, .bool ok]) ∧ OwnM w' w.heap.size (.slice a m.length cap) m ∧ Ext w w'
theorem GivesRM.one {w : World} {l : List UInt8} {e : Ending} {w' : World} (h : GivesRM w l e w') : GivesB w (rdMV l) (rdM l) e w' := by
  obtain ⟨hE, ⟨hy, a, cap, rfl, hO⟩ | ⟨hn, rfl⟩⟩ := h
  · have : rdMV l = mtV l := if_pos hy
    rw [this, hy]
    exact ⟨a, cap, rfl, hO, hE⟩
  · have : rdMV l = [] := if_neg (by rw [hn]; simp)
    rw [this, hn]
    exact ⟨none, 0, rfl, OwnM.nil _ _, hE⟩
end Go.Proofs.YtkipbfjkcdccjaaGreatDoor
