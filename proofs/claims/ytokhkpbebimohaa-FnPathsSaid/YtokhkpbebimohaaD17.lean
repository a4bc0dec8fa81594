/- Contracts of the draws of paths. Conditions: the code lies in memory. -/
import Derived.Test.YtokhkpbebimohaaD16
import Derived.Test.YtokhkpbebimohaaE25
import Derived.Deep.RegionWith
namespace Go.Proofs.Ytokhkpbebimohaa
set_option linter.unusedVariables false
set_option linter.unusedSimpArgs false
open Go.RowKit

set_option maxHeartbeats 1000000 in
theorem DrawHeaviestPath_c (ca : Option Addr) (cc : Nat) (bs : List Int) (w : World) (h : CodeAt w ca bs) :
    Calls Try.prog 35 #[.slice ca bs.length cc] w (DrawnMii w) := by
  rw [show (DrawnMii w) = fun e w' => ∃ a cap M x y, e = .returned (.tuple #[.slice a (M : List (List Int)).length cap, .int .i64 x, .int .i64 y]) ∧ OwnM w' w.heap.size (.slice a M.length cap) M ∧ M.length ≤ 100 ∧ (∀ i, i < M.length → (row M i).length ≤ 100) ∧ I64 x ∧ I64 y ∧ Ext w w' from rfl]
  go_enter Try.func35, Try.ntmps35
  go_wp2_with fail
  refine (l01From_c _ _ _ _ h h.new).mono ?_
  rintro e w1 ⟨b, rfl, hE1, hb, hS1⟩
  have hbw := hS1.lt
  clear h
  go_wp2_with fail
  refine (l03Draw_c b _ hS1).mono ?_
  rintro e w2 ⟨a, cap, M, rfl, hO2, hl, hr, hS2, hG2⟩
  have HR := Lib.hid hr
  have hE2 := hE1.src hb hG2
  have hz2 := hE1.size
  clear hr hS1
  go_wp2_with fail
  refine (l01Next_c b _ _ hS2 (by omega) (by omega)).mono ?_
  rintro e w3 ⟨x, rfl, -, hS3, hG3⟩
  have hO3 := hO2.drawnB hbw hG3
  have hE3 := hE2.src hb hG3
  have hz3 := Nat.le_trans hG2.size hG3.size
  clear hO2 hS2 hE2
  by_cases hx : x = 0
  · have hx' : (x == 0) = true := by rw [hx]; rfl
    have hb2 : b ≠ w3.heap.size := by have := hS3.lt; omega
    have hL := OwnI.lit2v w3 w1.heap.size (-1) (M.length : Nat) hz3
    have hS4 := hS3.alloc (.cells #[.int .i64 (-1), .int .i64 (M.length : Nat)] 2)
    have hO4 := hO3.ext ((Ext.refl w3).alloc (.cells #[.int .i64 (-1), .int .i64 (M.length : Nat)] 2))
    have hE4 := hE3.alloc (.cells #[.int .i64 (-1), .int .i64 (M.length : Nat)] 2)
    clear hx hO3 hS3 hE3 hG2 hG3
    go_wp2_with fail
    refine (l01Pick_c b _ _ [-1, (M.length : Nat)] _ hS4 hL.ints (by simp) (by simp) (fun o e => hb2 (by simp at e <;> exact e.1.symm))).mono ?_
    rintro e w5 ⟨y, rfl, hy, hS5, hG5⟩
    have hyI : I64 y := nth_I64 (fun i hi => by
      have : i = 0 ∨ i = 1 := by simp at hi; omega
      rcases this with rfl | rfl
      · show _ ≤ (-1 : Int) ∧ (-1 : Int) ≤ _; decide
      · show _ ≤ ((M.length : Nat) : Int) ∧ ((M.length : Nat) : Int) ≤ _; omega) hy
    have hO5 := (hO4.drawnB hbw hG5).mono hz2
    have hE5 := hE4.src hb hG5
    clear hO4 hS4 hE4 hL hy
    go_wp2
    go_ret3
    exact ⟨a, cap, M, y, 0, rfl, hO5, hl, HR.out, hyI, ⟨by decide, by decide⟩, hE5⟩
  · have hx' : (x == 0) = false := by rw [beq_eq_false_iff_ne]; exact hx
    clear hx
    have key : ∀ {y : Int}, NextP (M.length : Int) y → I64 y := fun {y} hy => by
      obtain ⟨h1, h2, h3⟩ := hy
      by_cases e : (M.length : Int) ≤ 1
      · rw [h2 e]; exact ⟨by decide, by decide⟩
      · have := h3 (by omega)
        exact ⟨by omega, by omega⟩
    go_wp2_with fail
    refine (l01Next_c b _ _ hS3 (by omega) (by omega)).mono ?_
    rintro e w5 ⟨y, rfl, hy, hS5, hG5⟩
    have hyI := key hy
    have hO5 := hO3.drawnB hbw hG5
    have hE5 := hE3.src hb hG5
    clear hO3 hS3 hE3 hy
    go_wp2_with fail
    refine (l01Next_c b _ _ hS5 (by omega) (by omega)).mono ?_
    rintro e w6 ⟨z, rfl, hz, hS6, hG6⟩
    have hzI := key hz
    have hO6 := (hO5.drawnB hbw hG6).mono hz2
    have hE6 := hE5.src hb hG6
    clear hO5 hS5 hE5 hz
    go_wp2
    go_ret3
    exact ⟨a, cap, M, y, z, rfl, hO6, hl, HR.out, hyI, hzI, hE6⟩
theorem make_sum (k : Nat) (hk : k < 2) : ∀ w : World, Sem.run Try.prog (Instr.makeSlice 34 (.int .i64 (100 + (k : Int))) (.int .i64 (100 + (k : Int)))) w = .ok (.slice (some ⟨w.heap.size, 0, none⟩) (100 + k) (100 + k)) (w.alloc (.cells (madeCells #[.int .i64 0] (100 + k)) 2)) := by
  have h := run_make_row' (P := Try.prog) 34 2 (.int .i64 0) 8 Try.underlying34 info_i rfl .i64 .i64 (100 + k) (by omega) (by omega)
  intro w
  have e : (((100 + k : Nat) : Int)) = 100 + (k : Int) := by omega
  rw [← e]; exact h w
set_option maxRecDepth 100000 in
set_option maxHeartbeats 4000000 in
theorem DrawPathWeight_c (ca : Option Addr) (cc : Nat) (bs : List Int) (w : World) (h : CodeAt w ca bs) :
    Calls Try.prog 38 #[.slice ca bs.length cc] w (DrawnMi w) := by
  rw [show (DrawnMi w) = fun e w' => ∃ a cap M v cv xs, e = .returned (.tuple #[.slice a (M : List (List Int)).length cap, .slice v (xs : List Int).length cv]) ∧ OwnM w' w.heap.size (.slice a M.length cap) M ∧ M.length ≤ 100 ∧ OwnI w' w.heap.size (.slice v xs.length cv) xs ∧ xs.length ≤ 101 ∧ Ext w w' from rfl]
  go_enter Try.func38, Try.ntmps38
  go_wp2_with fail
  refine (l01From_c _ _ _ _ h h.new).mono ?_
  rintro e w1 ⟨b, rfl, hE1, hb, hS1⟩
  have hbw := hS1.lt
  clear h
  go_wp2_with fail
  refine (l03Draw_c b _ hS1).mono ?_
  rintro e w2 ⟨a, cap, M, rfl, hO2, hl, -, hS2, hG2⟩
  have hE2 := hE1.src hb hG2
  have hz1 := hE1.size
  clear hS1
  go_wp2_with fail
  refine (l01Next_c b _ _ hS2 (by omega) (by omega)).mono ?_
  rintro e w3 ⟨x, rfl, -, hS3, hG3⟩
  have hO3 := hO2.drawnB hbw hG3
  have hE3 := hE2.src hb hG3
  have hz3 := Nat.le_trans hG2.size hG3.size
  clear hO2 hS2 hE2
  by_cases hx : x = 0
  · have hx' : (x == 0) = true := by rw [hx]; rfl
    clear hx hO3
    go_wp2_with fail
    go_region_with (go_at_call 67; refine (l01Next_b b _ _ (by first | exact hS3.drew | exact (hS3.drew).alloc _ | exact ((hS3.drew).alloc _).alloc _) (by omega) (by omega)).mono ?_; rintro e w5 ⟨k, rfl, hk, hS5, hG5⟩; have hk2 : k < 2 := (by omega); have hmk := make_sum k hk2; have hwk : IntKind.i64.wrap (100 + (k : Int)) = 100 + (k : Int) := IntWalk.i64_in _ (by omega))
    all_goals
      have hz5 := hG5.size
      simp at hz5
      have hz6 : w1.heap.size ≤ w5.heap.size := by omega
      clear hmk hwk
      go_wp2
      go_ret2
      have hA : OwnI (w3.alloc (.cells #[.int .i64 0] 2)) w1.heap.size (.slice (some ⟨w3.heap.size, 0, none⟩) 1 1) [0] := World.ownsRow_lit w3 #[.int .i64 0] 1 hz3 (by decide) rfl
      have hN : (w3.alloc (.cells #[.int .i64 0] 2)).heap.size = w3.heap.size + 1 := by simp
      have hz7 : w1.heap.size ≤ (w5.alloc (.cells (madeCells #[.int .i64 0] (100 + k)) 2)).heap.size := by simp; omega
      first
        | (have hB := OwnM.lit1 (w := w3.alloc (.cells #[.int .i64 0] 2)) (by omega) hA
           rw [hN] at hB
           have hM5 := ((hB.ext (Ext.refl _).drew).drawnB hbw hG5).ext ((Ext.refl w5).alloc (.cells (madeCells #[.int .i64 0] (100 + k)) 2))
           have hI5 := OwnI.made w5 w1.heap.size (100 + k) hz6 (by omega)
           have hE5 := (((hE3.alloc (.cells #[.int .i64 0] 2)).alloc (.cells #[.slice (some ⟨w3.heap.size, 0, none⟩) 1 1] 34)).drew.src hb hG5).alloc (.cells (madeCells #[.int .i64 0] (100 + k)) 2)
           exact ⟨_, 1, [[0]], _, 100 + k, List.replicate (100 + k) 0, by rw [List.length_replicate]; rfl, hM5.mono hz1, by simp, hI5.mono hz1, by rw [List.length_replicate]; omega, hE5⟩)
        | (have hA5 := (hA.ext (Ext.refl _).drew).drawnB hbw hG5
           have hM5 := (OwnM.lit1 (w := w5) hz6 hA5).ext ((Ext.refl _).alloc (.cells (madeCells #[.int .i64 0] (100 + k)) 2))
           have hI5 := OwnI.made (w5.alloc (.cells #[.slice (some ⟨w3.heap.size, 0, none⟩) 1 1] 34)) w1.heap.size (100 + k) (by first | omega | (simp; omega)) (by omega)
           have hE5 := (((hE3.alloc (.cells #[.int .i64 0] 2)).drew.src hb hG5).alloc (.cells #[.slice (some ⟨w3.heap.size, 0, none⟩) 1 1] 34)).alloc (.cells (madeCells #[.int .i64 0] (100 + k)) 2)
           have hN5 : (w5.alloc (.cells #[.slice (some ⟨w3.heap.size, 0, none⟩) 1 1] 34)).heap.size = w5.heap.size + 1 := by simp
           rw [hN5] at hI5
           exact ⟨_, 1, [[0]], _, 100 + k, List.replicate (100 + k) 0, by rw [List.length_replicate]; rfl, hM5.mono hz1, by simp, hI5.mono hz1, by rw [List.length_replicate]; omega, hE5⟩)
        | (have hA5 := ((hA.ext (Ext.refl _).drew).drawnB hbw hG5).ext ((Ext.refl w5).alloc (.cells (madeCells #[.int .i64 0] (100 + k)) 2))
           have hM5 := OwnM.lit1 (w := w5.alloc (.cells (madeCells #[.int .i64 0] (100 + k)) 2)) hz7 hA5
           have hN5 : (w5.alloc (.cells (madeCells #[.int .i64 0] (100 + k)) 2)).heap.size = w5.heap.size + 1 := by simp
           rw [hN5] at hM5
           have hI5 := (OwnI.made w5 w1.heap.size (100 + k) hz6 (by omega)).ext ((Ext.refl _).alloc (.cells #[.slice (some ⟨w3.heap.size, 0, none⟩) 1 1] 34))
           have hE5 := (((hE3.alloc (.cells #[.int .i64 0] 2)).drew.src hb hG5).alloc (.cells (madeCells #[.int .i64 0] (100 + k)) 2)).alloc (.cells #[.slice (some ⟨w3.heap.size, 0, none⟩) 1 1] 34)
           exact ⟨_, 1, [[0]], _, 100 + k, List.replicate (100 + k) 0, by rw [List.length_replicate]; rfl, hM5.mono hz1, by simp, hI5.mono hz1, by rw [List.length_replicate]; omega, hE5⟩)
        | (have hA6 : OwnI (w5.alloc (.cells #[.int .i64 0] 2)) w1.heap.size (.slice (some ⟨(w5).heap.size, 0, none⟩) 1 1) [0] := World.ownsRow_lit (w5) #[.int .i64 0] 1 (by first | omega | (simp; omega)) (by decide) rfl
           have hB6 := OwnM.lit1 (w := (w5.alloc (.cells #[.int .i64 0] 2))) (by first | omega | (simp; omega)) hA6
           try simp only [World.size_alloc] at hB6
           have hI6 := OwnI.made (((w5.alloc (.cells #[.int .i64 0] 2)).alloc (.cells #[.slice (some ⟨w5.heap.size, 0, none⟩) 1 1] 34))) w1.heap.size (100 + k) (by first | omega | (simp; omega)) (by omega)
           try simp only [World.size_alloc] at hI6
           replace hA6 := hA6.ext ((Ext.refl _).alloc (.cells (madeCells #[.int .i64 0] (100 + k)) 2))
           replace hB6 := hB6.ext ((Ext.refl _).alloc (.cells (madeCells #[.int .i64 0] (100 + k)) 2))
           have hM5 := hB6
           have hI5 := hI6
           have hE5 := ((((hE3.drew.src hb hG5).alloc (.cells #[.int .i64 0] 2)).alloc (.cells #[.slice (some ⟨w5.heap.size, 0, none⟩) 1 1] 34)).alloc (.cells (madeCells #[.int .i64 0] (100 + k)) 2))
           exact ⟨_, 1, [[0]], _, 100 + k, List.replicate (100 + k) 0, by rw [List.length_replicate]; rfl, hM5.mono hz1, by simp, hI5.mono hz1, by rw [List.length_replicate]; omega, hE5⟩)
        | (have hA6 : OwnI (w5.alloc (.cells #[.int .i64 0] 2)) w1.heap.size (.slice (some ⟨(w5).heap.size, 0, none⟩) 1 1) [0] := World.ownsRow_lit (w5) #[.int .i64 0] 1 (by first | omega | (simp; omega)) (by decide) rfl
           have hI6 := OwnI.made ((w5.alloc (.cells #[.int .i64 0] 2))) w1.heap.size (100 + k) (by first | omega | (simp; omega)) (by omega)
           try simp only [World.size_alloc] at hI6
           replace hA6 := hA6.ext ((Ext.refl _).alloc (.cells (madeCells #[.int .i64 0] (100 + k)) 2))
           have hB6 := OwnM.lit1 (w := ((w5.alloc (.cells #[.int .i64 0] 2)).alloc (.cells (madeCells #[.int .i64 0] (100 + k)) 2))) (by first | omega | (simp; omega)) hA6
           try simp only [World.size_alloc] at hB6
           replace hI6 := hI6.ext ((Ext.refl _).alloc (.cells #[.slice (some ⟨w5.heap.size, 0, none⟩) 1 1] 34))
           have hM5 := hB6
           have hI5 := hI6
           have hE5 := ((((hE3.drew.src hb hG5).alloc (.cells #[.int .i64 0] 2)).alloc (.cells (madeCells #[.int .i64 0] (100 + k)) 2)).alloc (.cells #[.slice (some ⟨w5.heap.size, 0, none⟩) 1 1] 34))
           exact ⟨_, 1, [[0]], _, 100 + k, List.replicate (100 + k) 0, by rw [List.length_replicate]; rfl, hM5.mono hz1, by simp, hI5.mono hz1, by rw [List.length_replicate]; omega, hE5⟩)
        | (have hI6 := OwnI.made (w5) w1.heap.size (100 + k) (by first | omega | (simp; omega)) (by omega)
           have hA6 : OwnI ((w5.alloc (.cells (madeCells #[.int .i64 0] (100 + k)) 2)).alloc (.cells #[.int .i64 0] 2)) w1.heap.size (.slice (some ⟨((w5.alloc (.cells (madeCells #[.int .i64 0] (100 + k)) 2))).heap.size, 0, none⟩) 1 1) [0] := World.ownsRow_lit ((w5.alloc (.cells (madeCells #[.int .i64 0] (100 + k)) 2))) #[.int .i64 0] 1 (by first | omega | (simp; omega)) (by decide) rfl
           try simp only [World.size_alloc] at hA6
           replace hI6 := hI6.ext ((Ext.refl _).alloc (.cells #[.int .i64 0] 2))
           have hB6 := OwnM.lit1 (w := ((w5.alloc (.cells (madeCells #[.int .i64 0] (100 + k)) 2)).alloc (.cells #[.int .i64 0] 2))) (by first | omega | (simp; omega)) hA6
           try simp only [World.size_alloc] at hB6
           replace hI6 := hI6.ext ((Ext.refl _).alloc (.cells #[.slice (some ⟨w5.heap.size + 1, 0, none⟩) 1 1] 34))
           have hM5 := hB6
           have hI5 := hI6
           have hE5 := ((((hE3.drew.src hb hG5).alloc (.cells (madeCells #[.int .i64 0] (100 + k)) 2)).alloc (.cells #[.int .i64 0] 2)).alloc (.cells #[.slice (some ⟨w5.heap.size + 1, 0, none⟩) 1 1] 34))
           exact ⟨_, 1, [[0]], _, 100 + k, List.replicate (100 + k) 0, by rw [List.length_replicate]; rfl, hM5.mono hz1, by simp, hI5.mono hz1, by rw [List.length_replicate]; omega, hE5⟩)
  · have hx' : (x == 0) = false := by rw [beq_eq_false_iff_ne]; exact hx
    clear hx
    go_wp2_with fail
    refine (l03DrawNodes_c b _ a cap M _ hS3 hO3 hbw hl).mono ?_
    rintro e w4 ⟨v, cv, xs, rfl, hI4, hxl, hS4, hG4⟩
    have hO4 := (hO3.drawnB hbw hG4).mono hz1
    have hI5 := hI4.mono (Nat.le_trans hz1 hz3)
    have hE4 := hE3.src hb hG4
    clear hO3 hI4 hE3
    go_wp2
    go_ret2
    exact ⟨a, cap, M, v, cv, xs, rfl, hO4, hl, hI5, hxl, hE4⟩
end Go.Proofs.Ytokhkpbebimohaa
