/- Contracts of the draws of potentials. Conditions: the code lies in memory; the source reads. -/
import Derived.Test.YtokhkpbebimohaaD11
namespace Go.Proofs.Ytokhkpbebimohaa
set_option linter.unusedVariables false
set_option linter.unusedSimpArgs false
open Go.RowKit

/-- a law's drawn matrix and a ratio -/
def DrawnMr (w : World) (e : Ending) (w' : World) : Prop := ∃ a cap M x y, e = .returned (.tuple #[.slice a (M : List (List Int)).length cap, .agg #[.int .i64 x, .int .i64 y]]) ∧ OwnM w' w.heap.size (.slice a M.length cap) M ∧ M.length ≤ 100 ∧ Ext w w'
theorem mat_box {w w5 : World} {B : Nat} {v : Value} {M : List (List Int)} (hO : OwnM w5 B v M) (hB : w.heap.size < B) (p q : Value) : OwnM ((w5.setCell ⟨w.heap.size, 0, none⟩ p).setCell ⟨w.heap.size, 1, none⟩ q) w.heap.size v M :=
  ((hO.chg (Chg.set w5 ⟨w.heap.size, 0, none⟩ p) (fun k hk => .inl (by simp only at hk; omega))).chg (Chg.set _ ⟨w.heap.size, 1, none⟩ q) (fun k hk => .inl (by simp only at hk; omega))).mono (Nat.le_of_lt hB)
set_option maxHeartbeats 1000000 in
theorem DrawPotentialOf_c (ca : Option Addr) (cc : Nat) (bs : List Int) (w : World) (h : CodeAt w ca bs) :
    Calls Try.prog 51 #[.slice ca bs.length cc] w (DrawnMr w) := by
  rw [show (DrawnMr w) = fun e w' => ∃ a cap M x y, e = .returned (.tuple #[.slice a (M : List (List Int)).length cap, .agg #[.int .i64 x, .int .i64 y]]) ∧ OwnM w' w.heap.size (.slice a M.length cap) M ∧ M.length ≤ 100 ∧ Ext w w' from rfl]
  obtain ⟨W, hW, HB, hs2, hE0⟩ := alloc2_facts w (.int .i64 0) (.int .i64 0) 55
  have h' := h.mono hE0
  clear h
  go_enter Try.func51, Try.ntmps51
  go_wp2_with fail
  refine (l01From_c _ _ _ _ h' h'.new).mono ?_
  rintro e w1 ⟨b, rfl, hE1, hb, hS1⟩
  have hcb : w.heap.size ≠ b := by omega
  have HB1 := HB.ext hE1
  go_wp2_with fail
  refine (l04DrawRatio_c b _ hS1).mono ?_
  rintro e w2 ⟨a, cap, M, x, y, rfl, hO, hl, hS2, hG2⟩
  obtain ⟨d0, d1, g0, g1⟩ := HB1.grown hG2 hcb
  have hE2 := (hE0.trans hE1).src (b := b) (by omega) hG2
  have hO2 := mat_box (w := w) hO (by have := hE1.size; omega) (.int .i64 x) (.int .i64 y)
  have hE3 := (hE2.set (p := ⟨w.heap.size, 0, none⟩) (Nat.le_refl _) (.int .i64 x)).set (p := ⟨w.heap.size, 1, none⟩) (Nat.le_refl _) (.int .i64 y)
  clear HB HB1 hO
  go_wp2
  exact bodyPost_ret (v := .tuple #[.slice a M.length cap, .agg #[.int .i64 x, .int .i64 y]]) (by simp [results, Try.results51, go_sem, d0, d1]) rfl ⟨a, cap, M, x, y, rfl, hO2, hl, hE3⟩
set_option maxHeartbeats 1000000 in
theorem DrawShiftMatrix_c (ca : Option Addr) (cc : Nat) (bs : List Int) (w : World) (h : CodeAt w ca bs) :
    Calls Try.prog 55 #[.slice ca bs.length cc] w (DrawnMr w) := by
  rw [show (DrawnMr w) = fun e w' => ∃ a cap M x y, e = .returned (.tuple #[.slice a (M : List (List Int)).length cap, .agg #[.int .i64 x, .int .i64 y]]) ∧ OwnM w' w.heap.size (.slice a M.length cap) M ∧ M.length ≤ 100 ∧ Ext w w' from rfl]
  obtain ⟨W, hW, HB, hs2, hE0⟩ := alloc2_facts w (.int .i64 0) (.int .i64 0) 55
  have h' := h.mono hE0
  clear h
  go_enter Try.func55, Try.ntmps55
  go_wp2_with fail
  refine (l01From_c _ _ _ _ h' h'.new).mono ?_
  rintro e w1 ⟨b, rfl, hE1, hb, hS1⟩
  have hcb : w.heap.size ≠ b := by omega
  have HB1 := HB.ext hE1
  go_wp2_with fail
  refine (l04DrawRatio_c b _ hS1).mono ?_
  rintro e w2 ⟨a, cap, M, x, y, rfl, hO, hl, hS2, hG2⟩
  obtain ⟨d0, d1, g0, g1⟩ := HB1.grown hG2 hcb
  have hE2 := (hE0.trans hE1).src (b := b) (by omega) hG2
  have hO2 := mat_box (w := w) hO (by have := hE1.size; omega) (.int .i64 x) (.int .i64 y)
  have hE3 := (hE2.set (p := ⟨w.heap.size, 0, none⟩) (Nat.le_refl _) (.int .i64 x)).set (p := ⟨w.heap.size, 1, none⟩) (Nat.le_refl _) (.int .i64 y)
  clear HB HB1 hO
  go_wp2
  exact bodyPost_ret (v := .tuple #[.slice a M.length cap, .agg #[.int .i64 x, .int .i64 y]]) (by simp [results, Try.results55, go_sem, d0, d1]) rfl ⟨a, cap, M, x, y, rfl, hO2, hl, hE3⟩
end Go.Proofs.Ytokhkpbebimohaa
