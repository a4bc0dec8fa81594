/- Contract of DrawSumOf: a list in new memory. Condition: the code reads. -/
import Derived.Test.YtkfpcbafhgolnaaD1
import Derived.Test.YtkfpcbafhgolnaaB3
import Derived.Deep.AppendLies
namespace Go.Proofs.Ytkfpcbafhgolnaa
set_option linter.unusedVariables false
set_option linter.unusedSimpArgs false
open Go.RowKit

/-- an append to a row behind the source leaves the source -/
theorem Src.row {w w' : World} {b : Nat} {r : Option Nat} (h : Src w b) (g : w.grownBy w' r) (hr : ∀ k, r = some k → b < k) : Src w' b := by
  obtain ⟨ca, cc, bs, t, s, hX⟩ := h
  have hlt := hX.lt
  have hb : ∀ i, w'.cell? ⟨b, i, none⟩ = w.cell? ⟨b, i, none⟩ := fun i => g.cell_far _ hlt (fun e => by have := hr b e.symm; omega)
  have hf : ∀ i, w'.frozen? ⟨b, i, none⟩ = w.frozen? ⟨b, i, none⟩ := fun i => g.frozen_far _ hlt (fun e => by have := hr b e.symm; omega)
  refine ⟨ca, cc, bs, t, s, (hb 0).trans hX.c0, (hb 1).trans hX.c1, (hb 2).trans hX.c2, (hf 1).trans hX.f1, (hf 2).trans hX.f2, hX.ht, hX.hs, hX.bytes.of fun hn b' o u ha i hv => ?_, hX.ne⟩
  have hbb := hX.ne hn b' o ha
  rw [g.cell_far ⟨b', o + i, none⟩ (by show b' < _; omega) (fun e => by have := hr b' e.symm; omega)]
  exact hv
theorem Src.lt {w : World} {b : Nat} (h : Src w b) : b < w.heap.size := by obtain ⟨ca, cc, bs, t, s, hX⟩ := h; exact hX.lt
/-- a list behind the source is not touched by drawing -/
theorem OwnI.drawn {w w' : World} {b : Nat} {v : Value} {xs : List Int} (h : OwnI w (b + 1) v xs) (g : w.grownBy w' (some b)) : OwnI w' (b + 1) v xs :=
  h.agree fun k hk => g.block k (h.lt hk).2 fun e => by have := (h.lt hk).1; simp only [Option.some.injEq] at e; omega
theorem OwnM.drawn {w w' : World} {b : Nat} {v : Value} {m : List (List Int)} (h : OwnM w (b + 1) v m) (g : w.grownBy w' (some b)) : OwnM w' (b + 1) v m :=
  h.agree fun k h1 h2 => g.block k h2 fun e => by simp only [Option.some.injEq] at e; omega

set_option maxHeartbeats 1000000 in
theorem DrawSumOf_c (ca : Option Addr) (cc : Nat) (bs : List Int) (w : World) (h : CodeAt w ca bs) :
    Calls Try.prog 19 #[.slice ca bs.length cc] w (fun e w' => ∃ a cap xs, e = .returned (.slice a xs.length cap) ∧ xs.length ≤ 1000 ∧ OwnI w' w.heap.size (.slice a xs.length cap) xs ∧ Ext w w') := by
  have hmk0 := run_make_row' (P := Try.prog) 27 2 (.int .i64 0) 8 Try.underlying27 info_i rfl .i64 .i64 200 (by omega) (by omega)
  have hmk1 := run_make_row' (P := Try.prog) 27 2 (.int .i64 0) 8 Try.underlying27 info_i rfl .i64 .i64 201 (by omega) (by omega)
  rw [show ((200 : Nat) : Int) = 200 from rfl] at hmk0
  rw [show ((201 : Nat) : Int) = 201 from rfl] at hmk1
  go_enter Try.func19, Try.ntmps19
  go_wp2_with fail
  refine (l01From_c _ _ _ _ h h.new).mono ?_
  rintro e w1 ⟨b, rfl, hE1, hb, hS1⟩
  have hlt1 := hS1.lt
  have hO1 := OwnI.empty w1 (b + 1) (by omega)
  have hE2 := hE1.alloc (.cells #[] 2)
  have hS2 := hS1.alloc (.cells #[] 2)
  go_wp2_with fail
  refine (l01Next_c b _ _ hS2 (by omega) (by omega)).mono ?_
  rintro e w3 ⟨n, rfl, ⟨hn1, -, hn2⟩, hS3, hG3⟩
  have hn3 := hn2 (by omega)
  have hE3 := hE2.src hb hG3
  have hO3 := hO1.drawn hG3
  clear hO1 hE2 hS2 hn2 hE1 hS1 hlt1
  go_wp2
  go_loopw [4, 5] (fun s i wr => ∃ (k : Int) (xs : List Int), 0 ≤ k ∧ k ≤ 8 ∧ (xs.length : Int) + k ≤ 9 ∧ i = .int .i64 k ∧ Ext w wr ∧ Src wr b ∧ OwnI wr (b + 1) s xs) (fun _ i _ => (intOf i).toNat)
  case atStart => exact ⟨n, [], hn1, by omega, by simp; omega, rfl, hE3, hS3, hO3⟩
  case round =>
    obtain ⟨k, xs, hk0, hk8, hkl, rfl, hE, hS, hO⟩ := hrel
    clear hE3 hS3 hO3
    by_cases hk : 0 < k
    · go_wp2_with fail
      refine (l01DrawValue_c b _ hS).mono ?_
      rintro e w2 ⟨x, rfl, -, hS2, hG⟩
      have hE2 := hE.src hb hG
      have hO2 := hO.drawn hG
      have hl : xs.length ≤ 1000000000 := by omega
      have hs : b + 1 ≤ (w2.alloc (.cells #[.int .i64 x] 2)).heap.size := by have := hS2.lt; simp; omega
      clear hS hO hE hG
      go_wp2_with (at_builtin; refine app_i rfl _ _ rfl (b + 1) _ _ rfl (hO2.ext ((Ext.refl w2).alloc _)) ⟨w2.heap.size, 0, none⟩ 1 x rfl (cell_one _ _ _) hl hs ?_)
      intro v' w' hO4 hg
      have hE4 := grown_i hE2 hO2 (by omega) hg
      have hS4 := (hS2.alloc (.cells #[.int .i64 x] 2)).row hg fun k hk => by have := hO2.base k hk; omega
      go_wp2
      go_roundw
      case rel => exact ⟨k - 1, xs ++ [x], by omega, by omega, by simp; omega, by first | rfl | go_num, hE4, hS4, hO4⟩
      case measure => simp [intOf]; omega
    · go_wp2_with fail
      refine (l01Next_c b _ _ hS (by omega) (by omega)).mono ?_
      rintro e w2 ⟨x, rfl, -, hS2, hG⟩
      have hE2 := hE.src hb hG
      have hO2 := hO.drawn hG
      clear hS hO hE hG
      by_cases hx : x = 0
      · have hx' : (x == 0) = true := by rw [hx]; rfl
        clear hx
        go_wp2_with fail
        refine (l01Next_c b _ _ hS2 (by omega) (by omega)).mono ?_
        rintro e w3 ⟨y, rfl, ⟨hy1, -, hy2⟩, hS3, hG3⟩
        have hy3 := hy2 (by omega)
        have hE3 := hE2.src hb hG3
        have hyy : y = 0 ∨ y = 1 := by omega
        have hsz := hE3.size
        clear hy2 hS3 hG3
        rcases hyy with rfl | rfl
        · have hO5 := OwnI.made w3 w.heap.size 200 hsz (by omega)
          have hE5 := hE3.alloc (.cells (madeCells #[.int .i64 0] 200) 2)
          go_wp2
          go_ret
          refine ⟨some ⟨w3.heap.size, 0, none⟩, 200, List.replicate 200 0, ?_, by rw [List.length_replicate]; omega, hO5, hE5⟩
          rw [List.length_replicate]; rfl
        · have hO5 := OwnI.made w3 w.heap.size 201 hsz (by omega)
          have hE5 := hE3.alloc (.cells (madeCells #[.int .i64 0] 201) 2)
          go_wp2
          go_ret
          refine ⟨some ⟨w3.heap.size, 0, none⟩, 201, List.replicate 201 0, ?_, by rw [List.length_replicate]; omega, hO5, hE5⟩
          rw [List.length_replicate]; rfl
      · have hx' : (x == 0) = false := by rw [beq_eq_false_iff_ne]; exact hx
        clear hx
        go_wp2
        go_ret
        obtain ⟨a', cap', rfl, _⟩ := hO2.at
        exact ⟨a', cap', xs, rfl, by omega, hO2.mono (by omega), hE2⟩
end Go.Proofs.Ytkfpcbafhgolnaa
