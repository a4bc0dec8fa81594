/- Contract of DrawIsPotential. Condition: the code lies in memory. -/
import Derived.Test.YtokhkpbebimohaaD13
namespace Go.Proofs.Ytokhkpbebimohaa
set_option linter.unusedVariables false
set_option linter.unusedSimpArgs false
open Go.RowKit

/-- a law's drawn matrix, a ratio and a list -/
def DrawnMrl (w : World) (e : Ending) (w' : World) : Prop := ∃ a cap M x y v cv xs, e = .returned (.tuple #[.slice a (M : List (List Int)).length cap, .agg #[.int .i64 x, .int .i64 y], .slice v (xs : List Int).length cv]) ∧ OwnM w' w.heap.size (.slice a M.length cap) M ∧ M.length ≤ 100 ∧ OwnI w' w.heap.size (.slice v xs.length cv) xs ∧ Ext w w'
set_option maxHeartbeats 1000000 in
theorem DrawIsPotential_c (ca : Option Addr) (cc : Nat) (bs : List Int) (w : World) (h : CodeAt w ca bs) :
    Calls Try.prog 54 #[.slice ca bs.length cc] w (DrawnMrl w) := by
  rw [show (DrawnMrl w) = fun e w' => ∃ a cap M x y v cv xs, e = .returned (.tuple #[.slice a (M : List (List Int)).length cap, .agg #[.int .i64 x, .int .i64 y], .slice v (xs : List Int).length cv]) ∧ OwnM w' w.heap.size (.slice a M.length cap) M ∧ M.length ≤ 100 ∧ OwnI w' w.heap.size (.slice v xs.length cv) xs ∧ Ext w w' from rfl]
  obtain ⟨W, hW, HB, hs2, hE0⟩ := alloc2_facts w (.int .i64 0) (.int .i64 0) 55
  have h' := h.mono hE0
  clear h
  go_enter Try.func54, Try.ntmps54
  go_wp2_with fail
  refine (l01From_c _ _ _ _ h' h'.new).mono ?_
  rintro e w1 ⟨b, rfl, hE1, hb, hS1⟩
  have hcb : w.heap.size ≠ b := by omega
  have HB1 := HB.ext hE1
  go_wp2_with fail
  refine (l04DrawProof_c b _ hS1).mono ?_
  rintro e w2 ⟨a, cap, M, x, y, v, cv, xs, rfl, hO, hl, hI, hS2, hG2⟩
  obtain ⟨d0, d1, g0, g1⟩ := HB1.grown hG2 hcb
  have hE2 := (hE0.trans hE1).src (b := b) (by omega) hG2
  have hw1 : w.heap.size < w1.heap.size := by have := hE1.size; omega
  have hO2 := mat_box (w := w) hO hw1 (.int .i64 x) (.int .i64 y)
  have hI2 := int_box (w := w) hI hw1 (.int .i64 x) (.int .i64 y)
  have hE3 := (hE2.set (p := ⟨w.heap.size, 0, none⟩) (Nat.le_refl _) (.int .i64 x)).set (p := ⟨w.heap.size, 1, none⟩) (Nat.le_refl _) (.int .i64 y)
  clear HB HB1 hO hI
  go_wp2
  exact bodyPost_ret (v := .tuple #[.slice a M.length cap, .agg #[.int .i64 x, .int .i64 y], .slice v xs.length cv]) (by simp [results, Try.results54, go_sem, d0, d1]) rfl ⟨a, cap, M, x, y, v, cv, xs, rfl, hO2, hl, hI2, hE3⟩
end Go.Proofs.Ytokhkpbebimohaa
