/- The laws' dice, with the sign; draws of powers and sizes. Conditions: the dice read; the code lies in memory. -/
import Derived.Test.YtokhkpbebimohaaD6
import Derived.Test.YtokhkpbebimohaaD8
import Derived.Laws.Bits64b
namespace Go.Proofs.Ytokhkpbebimohaa
set_option linter.unusedVariables false
set_option linter.unusedSimpArgs false
open Go.RowKit

theorem mask_bd {s : Int} (h : 0 ≤ s ∧ s ≤ 18446744073709551615) : 0 ≤ bits BinOp.and IntKind.u64 (s / 8589934592) 16777215 ∧ bits BinOp.and IntKind.u64 (s / 8589934592) 16777215 ≤ 16777215 := by
  obtain ⟨k, hk⟩ : ∃ k : Nat, s / 8589934592 = (k : Int) := ⟨(s / 8589934592).toNat, by omega⟩
  have e := bits_and_u64_nat k 16777215 (by omega) (by omega)
  have h2 : k &&& 16777215 ≤ 16777215 := Nat.and_le_right
  rw [hk]
  have e' : bits BinOp.and IntKind.u64 (k : Int) 16777215 = ((k &&& 16777215 : Nat) : Int) := e
  rw [e']
  omega
theorem tmod_pos {x n : Int} (hx : 0 ≤ x) (hn : 1 ≤ n) : 0 ≤ x.tmod n ∧ x.tmod n < n := by
  have h1 := Int.tmod_nonneg n hx
  have h2 := tmod_bd x hn
  omega
theorem w64_id {n : Int} (h : 0 ≤ n ∧ n ≤ 1000000000) : wrap64 n = n := by unfold wrap64; omega
theorem below_one {s n : Int} (hn : 1 ≤ n) (h : 0 ≤ s ∧ s ≤ 18446744073709551615) : 0 ≤ (wrap64 (bits BinOp.and IntKind.u64 (s / 8589934592) 16777215)).tmod n ∧ (wrap64 (bits BinOp.and IntKind.u64 (s / 8589934592) 16777215)).tmod n < n := by
  have h1 := mask_bd h
  generalize bits BinOp.and IntKind.u64 (s / 8589934592) 16777215 = m at *
  rw [w64_id (by omega)]
  exact tmod_pos h1.1 hn
theorem below_sum {s n y : Int} (hn : 1 ≤ n) (h : 0 ≤ s ∧ s ≤ 18446744073709551615) (hy : 0 ≤ y ∧ y ≤ 255) : 0 ≤ (wrap64 (wrap64 (bits BinOp.and IntKind.u64 (s / 8589934592) 16777215) + wrap64 y)).tmod n ∧ (wrap64 (wrap64 (bits BinOp.and IntKind.u64 (s / 8589934592) 16777215) + wrap64 y)).tmod n < n := by
  have h1 := mask_bd h
  generalize bits BinOp.and IntKind.u64 (s / 8589934592) 16777215 = m at *
  rw [w64_id (n := m) (by omega), w64_id (n := y) (by omega), w64_id (by omega)]
  exact tmod_pos (by omega) hn

set_option maxRecDepth 100000 in
set_option maxHeartbeats 1000000 in
theorem below2_c (b : Nat) (n : Int) (w : World) (h : Dice w b) (hn1 : 1 ≤ n) (hn2 : n ≤ 1000000) :
    Calls Try.prog 28 #[.pointer (some ⟨b, 0, none⟩), .int .i64 n] w fun e w' => ∃ x, e = .returned (.int .i64 x) ∧ (0 ≤ x ∧ x < n) ∧ Dice w' b ∧ w.grownBy w' (some b) := by
  obtain ⟨ca, cc, bs, t, s, hX⟩ := h
  obtain ⟨s', hs'⟩ : ∃ s', IntKind.u64.wrap (IntKind.u64.wrap (s * 6364136223846793005) + 1442695040888963407) = s' := ⟨_, rfl⟩
  have c2 := hX.c2
  have f2 := hX.f2
  have hX1 := hX.num s'
  have hg1 := grownBy_set w b 2 (.int .u64 s')
  obtain ⟨W1, hW1⟩ : ∃ W, w.setCell ⟨b, 2, none⟩ (.int .u64 s') = W := ⟨_, rfl⟩
  rw [hW1] at hX1 hg1
  have d0 := hX1.c0
  have d1 := hX1.c1
  have d2 := hX1.c2
  have hbl := hX1.bytes.1
  have ht := hX1.ht
  obtain ⟨ht0, ht1⟩ := ht
  have hn0 : (n == 0) = false := by rw [beq_eq_false_iff_ne]; omega
  have hsr : 0 ≤ s' ∧ s' ≤ 18446744073709551615 := by rw [← hs', IntKind.wrap_u64]; omega
  have HR := Lib.hid hsr
  have Hs := Lib.hid hs'
  clear hsr
  clear hX
  by_cases hlt : t < (bs.length : Int)
  · obtain ⟨k, rfl⟩ := Int.eq_ofNat_of_zero_le ht0
    have hk : k < bs.length := by omega
    obtain ⟨b2, o2, rfl, hc⟩ := hX1.bytes.at hk
    have y1 := hc k hk
    have hyr := hX1.bytes.2.1 k hk
    obtain ⟨y, hy⟩ : ∃ y, nth bs k = y := ⟨_, rfl⟩
    rw [hy] at y1 hyr
    have HY := Lib.hid hyr
    clear hc hy hyr
    go_enter Try.func28, Try.ntmps28
    go_wp2_with fail
    clear hs' c2 f2 hW1 Hs d2
    go_big_quiet (fail)
    have hX2 := hX1.qt ((Qt.refl W1).drewN nq)
    have hg2 := grownBy_qt hg1 ((Qt.refl W1).drewN nq)
    have z1 : (W1.drewN nq).cell? ⟨b2, o2 + k, none⟩ = some (.int .u8 y) := y1
    generalize W1.drewN nq = W2 at *
    clear d0 d1 y1 hX1 hg1
    have d0 := hX2.c0
    have d1 := hX2.c1
    go_wp2_with fail
    go_big_quiet (fail)
    have hX3 := hX2.qt ((Qt.refl W2).drewN nq)
    have hg3 := grownBy_qt hg2 ((Qt.refl W2).drewN nq)
    generalize W2.drewN nq = W3 at *
    clear d0 d1 z1 hX2 hg2
    have d1 := hX3.c1
    have f1 := hX3.f1
    have hX4 := hX3.at ((k : Int) + 1) (by omega)
    have hg4 := grownBy_trans hg3 (grownBy_set W3 b 1 (.int .i64 ((k : Int) + 1)))
    go_wp2_with fail
    go_ret
    exact ⟨_, rfl, below_sum hn1 HR.out HY.out, ⟨_, _, _, _, _, hX4⟩, hg4⟩
  · have et : t = bs.length := by omega
    clear hlt
    go_enter Try.func28, Try.ntmps28
    go_wp2_with fail
    clear hs' c2 f2 hW1 Hs d2
    go_big_quiet (fail)
    have hX2 := hX1.qt ((Qt.refl W1).drewN nq)
    have hg2 := grownBy_qt hg1 ((Qt.refl W1).drewN nq)
    go_wp2_with fail
    go_ret
    exact ⟨_, rfl, below_one hn1 HR.out, ⟨_, _, _, _, _, hX2⟩, hg2⟩

theorem OwnI.lit3v (w : World) (B : Nat) (x y z : Int) (hB : B ≤ w.heap.size) : OwnI (w.alloc (.cells #[.int .i64 x, .int .i64 y, .int .i64 z] 2)) B (.slice (some ⟨w.heap.size, 0, none⟩) 3 3) [x, y, z] :=
  World.ownsRow_lit w #[.int .i64 x, .int .i64 y, .int .i64 z] 3 hB (by decide) rfl
theorem OwnM.lit1v {w : World} {B r : Nat} {xs : List Int} (hB : B ≤ w.heap.size) (h1 : OwnI w B (.slice (some ⟨r, 0, none⟩) 1 1) xs) :
    OwnM (w.alloc (.cells #[.slice (some ⟨r, 0, none⟩) 1 1] 34)) B (.slice (some ⟨w.heap.size, 0, none⟩) 1 1) [xs] := by
  have l1 := h1.len
  have hE := (Ext.refl w).alloc (.cells #[.slice (some ⟨r, 0, none⟩) 1 1] 34)
  have r0 : row [xs] 0 = xs := rfl
  refine OwnM.of_hdr (A := fun i => some ⟨r, 0, none⟩) (C := fun _ => 1) ?_ (fun i hi => ?_) (fun i j q o o' hi hj hij ha hb => ?_)
  · have e : ((List.range [xs].length).map fun i => Value.slice (some ⟨r, 0, none⟩) (row [xs] i).length 1) = [.slice (some ⟨r, 0, none⟩) 1 1] := by
      show [Value.slice _ (row [xs] 0).length 1] = _
      rw [r0, ← l1]
    rw [e]
    exact World.ownsRow_lit w #[.slice (some ⟨r, 0, none⟩) 1 1] 1 hB (by decide) rfl
  · obtain rfl : i = 0 := by simp at hi; omega
    rw [r0, ← l1]; exact h1.ext hE
  · simp at hi hj; omega
theorem OwnI.lit1D (w : World) (x : Int) : OwnI (w.alloc (.cells #[.int .i64 x] 2)) w.heap.size (.slice (some ⟨w.heap.size, 0, none⟩) 1 1) [x] :=
  World.ownsRow_lit w #[.int .i64 x] 1 (Nat.le_refl _) (by decide) rfl
/-- a law's drawn matrix and a number -/
def DrawnMn (w : World) (e : Ending) (w' : World) : Prop := ∃ a cap M x, e = .returned (.tuple #[.slice a (M : List (List Int)).length cap, .int .i64 x]) ∧ OwnM w' w.heap.size (.slice a M.length cap) M ∧ M.length ≤ 100 ∧ I64 x ∧ Ext w w'
set_option maxHeartbeats 1000000 in
theorem DrawPowerMatrix_c (ca : Option Addr) (cc : Nat) (bs : List Int) (w : World) (h : CodeAt w ca bs) :
    Calls Try.prog 18 #[.slice ca bs.length cc] w (DrawnMn w) := by
  rw [show (DrawnMn w) = fun e w' => ∃ a cap M x, e = .returned (.tuple #[.slice a (M : List (List Int)).length cap, .int .i64 x]) ∧ OwnM w' w.heap.size (.slice a M.length cap) M ∧ M.length ≤ 100 ∧ I64 x ∧ Ext w w' from rfl]
  go_enter Try.func18, Try.ntmps18
  go_wp2_with fail
  refine (l01From_c _ _ _ _ h h.new).mono ?_
  rintro e w1 ⟨b, rfl, hE1, hb, hS1⟩
  have hbl := hS1.lt
  go_wp2_with fail
  refine (l02DrawSquare_c b _ hS1).mono ?_
  rintro e w2 ⟨a, cap, M, rfl, hO2, hl, -, hS2, hG2⟩
  go_wp2_with fail
  refine (l01Next_c b _ _ hS2 (by omega) (by omega)).mono ?_
  rintro e w3 ⟨z, rfl, -, hS3, hG3⟩
  have hO3 := hO2.drawnB hbl hG3
  have hG := grownBy_trans hG2 hG3
  have hb3 : b ≠ w3.heap.size := by have := hS3.lt; omega
  have hsz3 := hG.size
  clear hO2 hS2 hG2 hG3
  by_cases h0 : z = 0
  · have h0' : (z == 0) = true := by rw [h0]; rfl
    clear h0
    have hX := OwnI.lit3v w3 w3.heap.size (-1) 100 101 (Nat.le_refl _)
    have hS4 := hS3.alloc (.cells #[.int .i64 (-1), .int .i64 100, .int .i64 101] 2)
    have hO4 := hO3.ext ((Ext.refl w3).alloc (.cells #[.int .i64 (-1), .int .i64 100, .int .i64 101] 2))
    have hG4 := grownBy_trans hG (grownBy_ext (some b) ((Ext.refl w3).alloc (.cells #[.int .i64 (-1), .int .i64 100, .int .i64 101] 2)))
    clear hO3 hS3 hG
    go_wp2_with fail
    refine (l01Pick_c b _ _ [-1, 100, 101] _ hS4 hX.ints (by decide) (by decide) (fun o e => hb3 (by simp at e <;> exact e.1.symm))).mono ?_
    rintro e w5 ⟨x, rfl, hx, hS5, hG5⟩
    have hxI : I64 x := nth_I64 (fun i hi => by
      have : i = 0 ∨ i = 1 ∨ i = 2 := by simp at hi; omega
      rcases this with rfl | rfl | rfl <;> exact ⟨by decide, by decide⟩) hx
    have hO5 := (hO4.drawnB hbl hG5).mono hE1.size
    have hE5 := hE1.src hb (grownBy_trans hG4 hG5)
    go_wp2
    go_ret2
    exact ⟨a, cap, M, x, rfl, hO5, hl, hxI, hE5⟩
  have h0' : (z == 0) = false := by rw [beq_eq_false_iff_ne]; exact h0
  clear h0
  by_cases h1 : z = 1
  · have h1' : (z == 1) = true := by rw [h1]; rfl
    clear h1
    go_wp2_with fail
    refine (l02Draw_c b _ hS3).mono ?_
    rintro e w4 ⟨a4, c4, M4, rfl, hO4, hl4, -, hS4, hG4⟩
    have hb4 := hS3.lt
    go_wp2_with fail
    refine (l01Next_c b _ _ hS4 (by omega) (by omega)).mono ?_
    rintro e w5 ⟨x, rfl, ⟨hx1, -, hx2⟩, hS5, hG5⟩
    have hx3 := hx2 (by omega)
    have hxI : I64 x := ⟨by omega, by omega⟩
    have hO5 := (hO4.drawnB hb4 hG5).mono (Nat.le_trans hE1.size hsz3)
    have hE5 := hE1.src hb (grownBy_trans (grownBy_trans hG hG4) hG5)
    clear hO3 hO4 hx2
    go_wp2
    go_ret2
    exact ⟨a4, c4, M4, x, rfl, hO5, hl4, hxI, hE5⟩
  have h1' : (z == 1) = false := by rw [beq_eq_false_iff_ne]; exact h1
  clear h1
  by_cases h2 : z = 2
  · have h2' : (z == 2) = true := by rw [h2]; rfl
    clear h2
    have hX := OwnI.lit2v w3 w3.heap.size 10000 10001 (Nat.le_refl _)
    have hS4 := hS3.alloc (.cells #[.int .i64 10000, .int .i64 10001] 2)
    have hG4 := grownBy_trans hG (grownBy_ext (some b) ((Ext.refl w3).alloc (.cells #[.int .i64 10000, .int .i64 10001] 2)))
    clear hO3 hS3 hG
    go_wp2_with fail
    refine (l01Pick_c b _ _ [10000, 10001] _ hS4 hX.ints (by decide) (by decide) (fun o e => hb3 (by simp at e <;> exact e.1.symm))).mono ?_
    rintro e w5 ⟨x, rfl, -, hS5, hG5⟩
    have hE5 := hE1.src hb (grownBy_trans hG4 hG5)
    have hs5 := hE5.size
    have hO6 := (OwnI.lit1D w5 x).mono hs5
    have hE6 := hE5.alloc (.cells #[.int .i64 x] 2)
    obtain ⟨W6, hW6⟩ : ∃ W, w5.alloc (.cells #[.int .i64 x] 2) = W := ⟨_, rfl⟩
    have hz6 : w5.heap.size < W6.heap.size := by rw [← hW6]; simp
    rw [hW6] at hO6 hE6
    have hM7 := OwnM.lit1v hE6.size hO6
    have hE7 := hE6.alloc (.cells #[.slice (some ⟨w5.heap.size, 0, none⟩) 1 1] 34)
    clear hO6 hE6 hX hS4 hG4 hS5 hG5
    go_wp2
    go_ret2
    exact ⟨_, _, [[x]], 100, rfl, hM7, (by simp), ⟨by decide, by decide⟩, hE7⟩
  · have h2' : (z == 2) = false := by rw [beq_eq_false_iff_ne]; exact h2
    clear h2
    go_wp2_with fail
    refine (l01Next_c b _ _ hS3 (by omega) (by omega)).mono ?_
    rintro e w5 ⟨x, rfl, ⟨hx1, -, hx2⟩, hS5, hG5⟩
    have hx3 := hx2 (by omega)
    have hxI : I64 x := ⟨by omega, by omega⟩
    have hO5 := (hO3.drawnB hbl hG5).mono hE1.size
    have hE5 := hE1.src hb (grownBy_trans hG hG5)
    clear hO3 hx2
    go_wp2
    go_ret2
    exact ⟨a, cap, M, x, rfl, hO5, hl, hxI, hE5⟩
theorem DrawUnitMatrix_c (ca : Option Addr) (cc : Nat) (bs : List Int) (w : World) (h : CodeAt w ca bs) :
    Calls Try.prog 21 #[.slice ca bs.length cc] w fun e w' => ∃ x : Int, e = .returned (.int .i64 x) ∧ I64 x ∧ Ext w w' := by
  go_enter Try.func21, Try.ntmps21
  go_wp2_with fail
  refine (l01From_c _ _ _ _ h h.new).mono ?_
  rintro e w1 ⟨b, rfl, hE1, hb, hS1⟩
  go_wp2_with fail
  refine (l01Next_c b _ _ hS1 (by omega) (by omega)).mono ?_
  rintro e w2 ⟨x, rfl, ⟨hx1, -, hx2⟩, hS2, hG2⟩
  have hx3 := hx2 (by omega)
  have hE2 := hE1.src hb hG2
  go_wp2
  go_ret
  exact ⟨x - 1, rfl, ⟨by omega, by omega⟩, hE2⟩
theorem DrawBottomMatrix_c (ca : Option Addr) (cc : Nat) (bs : List Int) (w : World) (h : CodeAt w ca bs) :
    Calls Try.prog 24 #[.slice ca bs.length cc] w fun e w' => ∃ x y : Int, e = .returned (.tuple #[.int .i64 x, .int .i64 y]) ∧ I64 x ∧ I64 y ∧ Ext w w' := by
  go_enter Try.func24, Try.ntmps24
  go_wp2_with fail
  refine (l01From_c _ _ _ _ h h.new).mono ?_
  rintro e w1 ⟨b, rfl, hE1, hb, hS1⟩
  go_wp2_with fail
  refine (l01Next_c b _ _ hS1 (by omega) (by omega)).mono ?_
  rintro e w2 ⟨x, rfl, ⟨hx1, -, hx2⟩, hS2, hG2⟩
  have hx3 := hx2 (by omega)
  go_wp2_with fail
  refine (l01Next_c b _ _ hS2 (by omega) (by omega)).mono ?_
  rintro e w3 ⟨y, rfl, ⟨hy1, -, hy2⟩, hS3, hG3⟩
  have hy3 := hy2 (by omega)
  have hE3 := (hE1.src hb hG2).src hb hG3
  go_wp2
  go_ret2
  exact ⟨x - 1, y - 1, rfl, ⟨by omega, by omega⟩, ⟨by omega, by omega⟩, hE3⟩
end Go.Proofs.Ytokhkpbebimohaa
