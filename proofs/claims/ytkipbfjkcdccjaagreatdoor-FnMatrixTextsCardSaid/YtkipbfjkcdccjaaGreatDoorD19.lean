/- Texts of drawn matrices. Conditions: the source lies in memory. -/
import Derived.Test.YtkipbfjkcdccjaaGreatDoorD4
import Derived.Test.YtkipbfjkcdccjaaGreatDoorD18
import Derived.Test.YtkipbfjkcdccjaaGreatDoorT7
namespace Go.Proofs.YtkipbfjkcdccjaaGreatDoor
set_option linter.unusedVariables false
set_option linter.unusedSimpArgs false
open Go.RowKit

set_option maxHeartbeats 1000000 in
theorem DrawMatrixText_c (ca : Option Addr) (cc : Nat) (bs : List Int) (w : World) (h : CodeAt w ca bs) :
    Calls Tryz.prog 5 #[.slice ca bs.length cc] w (fun e w' => ∃ a cap M, e = .returned (.slice a (M : List (List Int)).length cap) ∧ MatAt w' a M ∧ Ext w w') := by
  go_enter Tryz.func5, Tryz.ntmps5
  go_wp2_with fail
  refine (l01From_c _ _ _ _ h h.new).mono ?_
  rintro e w1 ⟨b, rfl, hE1, hb, hS1⟩
  go_wp2_with fail
  refine (l02Draw_c b _ hS1).mono ?_
  rintro e w2 ⟨a, cap, M, rfl, hO, hl, hr, hS2, hG2⟩
  go_wp2
  go_ret
  exact ⟨a, cap, M, rfl, hO.mat, hE1.src hb hG2⟩
set_option maxHeartbeats 1000000 in
theorem DrawReadMatrix_c (ca : Option Addr) (cc : Nat) (bs : List Int) (w : World) (h : CodeAt w ca bs) :
    Calls Tryz.prog 8 #[.slice ca bs.length cc] w (fun e w' => ∃ l : List UInt8, e = .returned (.string ⟨l.toArray⟩) ∧ l.length ≤ 1000 ∧ Ext w w') := by
  go_enter Tryz.func8, Tryz.ntmps8
  go_wp2_with fail
  refine (l01From_c _ _ _ _ h h.new).mono ?_
  rintro e w1 ⟨b, rfl, hE1, hb, hS1⟩
  go_wp2_with fail
  refine (l02Draw_c b _ hS1).mono ?_
  rintro e w2 ⟨a, cap, M, rfl, hO, hlM, hr, hS2, hG2⟩
  have hE2 := hE1.src hb hG2
  have hvl := matT_len M
  clear hr
  go_wp2_with fail
  refine (specMatrixText_c a cap M _ hO.mat).mono ?_
  rintro e w3 ⟨rfl, hE3⟩
  have hS3 := hS2.ext hE3
  have hE4 := hE2.trans hE3
  clear hG2 hE1 hE2 hE3 hS1 hS2 hO hlM
  generalize matT M = T at *
  go_wp2_with fail
  refine (l01Next_c b _ _ hS3 (by omega) (by omega)).mono ?_
  rintro e w4 ⟨c, rfl, -, hS4, hG4⟩
  have hE5 := hE4.src hb hG4
  clear hE4 hG4 hS3
  by_cases c0 : c = 0
  · subst c0
    go_wp2_with fail
    refine (l01Damage_c b T (by omega) _ hS4).mono ?_
    rintro e w5 ⟨l, rfl, hl, hS5, hG5⟩
    go_wp2_with fail
    go_ret
    exact ⟨l, rfl, by omega, hE5.src hb hG5⟩
  · have d0 : (c == 0) = false := by simpa using c0
    go_wp2_with fail
    go_ret
    exact ⟨T, rfl, by omega, hE5⟩
end Go.Proofs.YtkipbfjkcdccjaaGreatDoor
