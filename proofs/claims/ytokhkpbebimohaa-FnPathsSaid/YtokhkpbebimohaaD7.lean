/- Contracts of the draws of square matrices and of nodes. Conditions: the source reads. -/
import Derived.Test.YtokhkpbebimohaaD5
namespace Go.Proofs.Ytokhkpbebimohaa
set_option linter.unusedVariables false
set_option linter.unusedSimpArgs false
open Go.RowKit

theorem OwnI.lit2v (w : World) (B : Nat) (x y : Int) (hB : B ≤ w.heap.size) : OwnI (w.alloc (.cells #[.int .i64 x, .int .i64 y] 2)) B (.slice (some ⟨w.heap.size, 0, none⟩) 2 2) [x, y] :=
  World.ownsRow_lit w #[.int .i64 x, .int .i64 y] 2 hB (by decide) rfl
theorem OwnM.lit2v {w : World} {B r s : Nat} {xs ys : List Int} (hB : B ≤ w.heap.size) (h1 : OwnI w B (.slice (some ⟨r, 0, none⟩) 2 2) xs) (h2 : OwnI w B (.slice (some ⟨s, 0, none⟩) 2 2) ys) (hne : r ≠ s) :
    OwnM (w.alloc (.cells #[.slice (some ⟨r, 0, none⟩) 2 2, .slice (some ⟨s, 0, none⟩) 2 2] 34)) B (.slice (some ⟨w.heap.size, 0, none⟩) 2 2) [xs, ys] := by
  have l1 := h1.len
  have l2 := h2.len
  have hE := (Ext.refl w).alloc (.cells #[.slice (some ⟨r, 0, none⟩) 2 2, .slice (some ⟨s, 0, none⟩) 2 2] 34)
  have r0 : row [xs, ys] 0 = xs := rfl
  have r1 : row [xs, ys] 1 = ys := rfl
  refine OwnM.of_hdr (A := fun i => if i = 0 then some ⟨r, 0, none⟩ else some ⟨s, 0, none⟩) (C := fun _ => 2) ?_ (fun i hi => ?_) (fun i j q o o' hi hj hij ha hb => ?_)
  · have e : ((List.range [xs, ys].length).map fun i => Value.slice (if i = 0 then some ⟨r, 0, none⟩ else some ⟨s, 0, none⟩) (row [xs, ys] i).length 2) = [.slice (some ⟨r, 0, none⟩) 2 2, .slice (some ⟨s, 0, none⟩) 2 2] := by
      show [Value.slice _ (row [xs, ys] 0).length 2, Value.slice _ (row [xs, ys] 1).length 2] = _
      rw [r0, r1, ← l1, ← l2]; rfl
    rw [e]
    exact World.ownsRow_lit w #[.slice (some ⟨r, 0, none⟩) 2 2, .slice (some ⟨s, 0, none⟩) 2 2] 2 hB (by decide) rfl
  · have : i = 0 ∨ i = 1 := by simp at hi; omega
    rcases this with rfl | rfl
    · rw [r0, ← l1]; exact h1.ext hE
    · rw [r1, ← l2]; exact h2.ext hE
  · have h1 : i = 0 ∨ i = 1 := by simp at hi; omega
    have h2 : j = 0 ∨ j = 1 := by simp at hj; omega
    rcases h1 with rfl | rfl <;> rcases h2 with rfl | rfl
    · exact hij rfl
    · simp at ha hb
      exact hne (ha.1.trans hb.1.symm)
    · simp at ha hb
      exact hne (hb.1.trans ha.1.symm)
    · exact hij rfl

theorem l02DrawSquare_c (b : Nat) (w : World) (h : Src w b) : Calls Try.prog 72 #[.pointer (some ⟨b, 0, none⟩)] w (DrM b w) := by
  have hbw := h.lt
  rw [show (DrM b w) = fun e w' => ∃ a cap M, e = .returned (.slice a (M : List (List Int)).length cap) ∧ OwnM w' w.heap.size (.slice a M.length cap) M ∧ M.length ≤ 100 ∧ (∀ i, i < M.length → (row M i).length ≤ 100) ∧ Src w' b ∧ w.grownBy w' (some b) from rfl]
  go_enter Try.func72, Try.ntmps72
  go_wp2_with fail
  refine (l01Next_c b _ _ h (by omega) (by omega)).mono ?_
  rintro e w1 ⟨x, rfl, ⟨hx1, -, hx2⟩, hS1, hG1⟩
  have hx3 := hx2 (by omega)
  obtain ⟨p, hp⟩ : ∃ p : Nat, 1 + x = (p : Int) := ⟨(1 + x).toNat, by omega⟩
  have hcall : Calls Try.prog 124 #[.pointer (some ⟨b, 0, none⟩), .int .i64 (1 + x), .int .i64 (1 + x)] w1 (DrM b w1) := by
    rw [hp]; exact l02DrawSize_c b p p w1 hS1 (by omega) (by omega) (by omega) (by omega)
  have HC := Lib.hid hcall
  clear hcall hp
  go_wp2_with fail
  refine HC.out.mono ?_
  rintro e w3 ⟨a, cap, M, rfl, hO, hl, hr, hS3, hG3⟩
  go_wp2
  go_ret
  exact ⟨a, cap, M, rfl, hO.mono hG1.size, hl, hr, hS3, grownBy_trans hG1 hG3⟩
set_option maxHeartbeats 1000000 in
theorem l04Draw_c (b : Nat) (w : World) (h : Src w b) : Calls Try.prog 60 #[.pointer (some ⟨b, 0, none⟩)] w (DrM b w) := by
  have hbw := h.lt
  rw [show (DrM b w) = fun e w' => ∃ a cap M, e = .returned (.slice a (M : List (List Int)).length cap) ∧ OwnM w' w.heap.size (.slice a M.length cap) M ∧ M.length ≤ 100 ∧ (∀ i, i < M.length → (row M i).length ≤ 100) ∧ Src w' b ∧ w.grownBy w' (some b) from rfl]
  go_enter Try.func60, Try.ntmps60
  go_wp2_with fail
  refine (l02DrawSquare_c b _ h).mono ?_
  rintro e w1 ⟨a, cap, M, rfl, hO, hl, hr, hS1, hG1⟩
  have HR := Lib.hid hr
  go_wp2_with fail
  refine (l01Next_c b _ _ hS1 (by omega) (by omega)).mono ?_
  rintro e w2 ⟨x, rfl, -, hS2, hG2⟩
  have hO2 := hO.drawnB hbw hG2
  replace hG2 := grownBy_trans hG1 hG2
  have hs2 := hG2.size
  clear hO hS1 hG1 hr
  by_cases hx : x = 0
  · have hx' : (x == 0) = true := by rw [hx]; rfl
    have hb2 : b ≠ w2.heap.size := by have := hS2.lt; omega
    clear hx hO2
    have hO3 := OwnI.lit2v w2 w.heap.size 1000000 999983 hs2
    have hS3 := hS2.alloc (.cells #[.int .i64 1000000, .int .i64 999983] 2)
    have hG3 := grownBy_trans hG2 (grownBy_ext (some b) ((Ext.refl w2).alloc (.cells #[.int .i64 1000000, .int .i64 999983] 2)))
    go_wp2_with fail
    refine (l01Pick_c b _ _ [1000000, 999983] _ hS3 hO3.ints (by decide) (by decide) (fun o e => hb2 (by simp at e <;> exact e.1.symm))).mono ?_
    rintro e w4 ⟨p, rfl, -, hS4, hG4⟩
    replace hG4 := grownBy_trans hG3 hG4
    have hs4 := hG4.size
    have hb4 := hS4.lt
    have hO5 := OwnI.lit2v w4 w.heap.size (-1000000000000000) p hs4
    have hS5 := hS4.alloc (.cells #[.int .i64 (-1000000000000000), .int .i64 p] 2)
    have hG5 := grownBy_trans hG4 (grownBy_ext (some b) ((Ext.refl w4).alloc (.cells #[.int .i64 (-1000000000000000), .int .i64 p] 2)))
    obtain ⟨W5, hW5⟩ : ∃ W, w4.alloc (.cells #[.int .i64 (-1000000000000000), .int .i64 p] 2) = W := ⟨_, rfl⟩
    have hz5 : w4.heap.size < W5.heap.size := by rw [← hW5]; simp
    rw [hW5] at hO5 hS5 hG5
    have hs5 := hG5.size
    have hO6 := OwnI.lit2v W5 w.heap.size 1000000 (-7) hs5
    have hS6 := hS5.alloc (.cells #[.int .i64 1000000, .int .i64 (-7)] 2)
    have hG6 := grownBy_trans hG5 (grownBy_ext (some b) ((Ext.refl W5).alloc (.cells #[.int .i64 1000000, .int .i64 (-7)] 2)))
    have hO56 := hO5.ext ((Ext.refl W5).alloc (.cells #[.int .i64 1000000, .int .i64 (-7)] 2))
    have hb5 : b ≠ W5.heap.size := by have := hS5.lt; omega
    clear hO3 hS3 hG3 hS4 hG4 hS5 hG5 hO5
    go_wp2_with fail
    refine (l01Pick_c b _ _ [1000000, -7] _ hS6 hO6.ints (by decide) (by decide) (fun o e => hb5 (by simp at e <;> exact e.1.symm))).mono ?_
    rintro e w7 ⟨q, rfl, -, hS7, hG7⟩
    have hO7 := hO56.drawnB hbw hG7
    have hsz7 := hG7.size
    replace hG7 := grownBy_trans hG6 hG7
    have hs7 := hG7.size
    have hz7 : w4.heap.size < w7.heap.size := by simp at hsz7; omega
    have hO8 := OwnI.lit2v w7 w.heap.size q (-1000000000000000) hs7
    have hO78 := hO7.ext ((Ext.refl w7).alloc (.cells #[.int .i64 q, .int .i64 (-1000000000000000)] 2))
    have hS8 := hS7.alloc (.cells #[.int .i64 q, .int .i64 (-1000000000000000)] 2)
    have hG8 := grownBy_trans hG7 (grownBy_ext (some b) ((Ext.refl w7).alloc (.cells #[.int .i64 q, .int .i64 (-1000000000000000)] 2)))
    obtain ⟨W8, hW8⟩ : ∃ W, w7.alloc (.cells #[.int .i64 q, .int .i64 (-1000000000000000)] 2) = W := ⟨_, rfl⟩
    rw [hW8] at hO8 hO78 hS8 hG8
    have hM9 := OwnM.lit2v (w := W8) hG8.size hO78 hO8 (by omega)
    have hS9 := hS8.alloc (.cells #[.slice (some ⟨w4.heap.size, 0, none⟩) 2 2, .slice (some ⟨w7.heap.size, 0, none⟩) 2 2] 34)
    have hG9 := grownBy_trans hG8 (grownBy_ext (some b) ((Ext.refl W8).alloc (.cells #[.slice (some ⟨w4.heap.size, 0, none⟩) 2 2, .slice (some ⟨w7.heap.size, 0, none⟩) 2 2] 34)))
    clear hO6 hS6 hG6 hO56 hO7 hS7 hG7 hO8 hO78 hS8 hG8
    go_wp2
    go_ret
    exact ⟨_, _, [[-1000000000000000, p], [q, -1000000000000000]], rfl, hM9, (by simp), fun i hi => by
      have : i = 0 ∨ i = 1 := by simp at hi; omega
      rcases this with rfl | rfl <;> exact (by decide : 2 ≤ 100), hS9, hG9⟩
  · have hx' : (x == 0) = false := by rw [beq_eq_false_iff_ne]; exact hx
    clear hx
    go_wp2
    go_ret
    exact ⟨a, cap, M, rfl, hO2, hl, HR.out, hS2, hG2⟩
/-- a drawn matrix and a number: new memory; the source goes on -/
def DrMi (b : Nat) (w : World) (e : Ending) (w' : World) : Prop := ∃ a cap M x, e = .returned (.tuple #[.slice a (M : List (List Int)).length cap, .int .i64 x]) ∧ OwnM w' w.heap.size (.slice a M.length cap) M ∧ M.length ≤ 100 ∧ (∀ i, i < M.length → (row M i).length ≤ 100) ∧ I64 x ∧ Src w' b ∧ w.grownBy w' (some b)
set_option maxHeartbeats 1000000 in
theorem l05DrawNode_c (b : Nat) (w : World) (h : Src w b) : Calls Try.prog 66 #[.pointer (some ⟨b, 0, none⟩)] w (DrMi b w) := by
  have hbw := h.lt
  rw [show (DrMi b w) = fun e w' => ∃ a cap M x, e = .returned (.tuple #[.slice a (M : List (List Int)).length cap, .int .i64 x]) ∧ OwnM w' w.heap.size (.slice a M.length cap) M ∧ M.length ≤ 100 ∧ (∀ i, i < M.length → (row M i).length ≤ 100) ∧ I64 x ∧ Src w' b ∧ w.grownBy w' (some b) from rfl]
  go_enter Try.func66, Try.ntmps66
  go_wp2_with fail
  refine (l04Draw_c b _ h).mono ?_
  rintro e w1 ⟨a, cap, M, rfl, hO, hl, hr, hS1, hG1⟩
  have HR := Lib.hid hr
  clear hr
  go_wp2_with fail
  refine (l01Next_c b _ _ hS1 (by omega) (by omega)).mono ?_
  rintro e w2 ⟨x, rfl, -, hS2, hG2⟩
  have hO2 := hO.drawnB hbw hG2
  replace hG2 := grownBy_trans hG1 hG2
  have hs2 := hG2.size
  clear hO hS1 hG1
  by_cases hx : x = 0
  · have hx' : (x == 0) = true := by rw [hx]; rfl
    clear hx
    have hb2 : b ≠ w2.heap.size := by have := hS2.lt; omega
    have hO3 := OwnI.lit2v w2 w.heap.size (-1) (M.length : Nat) hs2
    have hS3 := hS2.alloc (.cells #[.int .i64 (-1), .int .i64 (M.length : Nat)] 2)
    have hO4 := hO2.ext ((Ext.refl w2).alloc (.cells #[.int .i64 (-1), .int .i64 (M.length : Nat)] 2))
    have hG3 := grownBy_trans hG2 (grownBy_ext (some b) ((Ext.refl w2).alloc (.cells #[.int .i64 (-1), .int .i64 (M.length : Nat)] 2)))
    clear hO2 hS2 hG2
    go_wp2_with fail
    refine (l01Pick_c b _ _ [-1, (M.length : Nat)] _ hS3 hO3.ints (by simp) (by simp) (fun o e => hb2 (by simp at e <;> exact e.1.symm))).mono ?_
    rintro e w4 ⟨y, rfl, hy, hS4, hG4⟩
    have hyI : I64 y := nth_I64 (fun i hi => by
      have : i = 0 ∨ i = 1 := by simp at hi; omega
      rcases this with rfl | rfl
      · show _ ≤ (-1 : Int) ∧ (-1 : Int) ≤ _; decide
      · show _ ≤ ((M.length : Nat) : Int) ∧ ((M.length : Nat) : Int) ≤ _; omega) hy
    have hO5 := hO4.drawnB hbw hG4
    replace hG4 := grownBy_trans hG3 hG4
    clear hO4 hO3 hG3 hS3 hy
    go_wp2
    go_ret2
    exact ⟨a, cap, M, y, rfl, hO5, hl, HR.out, hyI, hS4, hG4⟩
  · have hx' : (x == 0) = false := by rw [beq_eq_false_iff_ne]; exact hx
    clear hx
    go_wp2_with fail
    refine (l01Next_c b _ _ hS2 (by omega) (by omega)).mono ?_
    rintro e w4 ⟨y, rfl, hy, hS4, hG4⟩
    have hyI : I64 y := by
      obtain ⟨h1, h2, h3⟩ := hy
      by_cases e : (M.length : Int) ≤ 1
      · rw [h2 e]; exact ⟨by decide, by decide⟩
      · have := h3 (by omega)
        exact ⟨by omega, by omega⟩
    have hO5 := hO2.drawnB hbw hG4
    replace hG4 := grownBy_trans hG2 hG4
    clear hO2 hG2 hS2 hy
    go_wp2
    go_ret2
    exact ⟨a, cap, M, y, rfl, hO5, hl, HR.out, hyI, hS4, hG4⟩
theorem DrawComponentsOf_c (ca : Option Addr) (cc : Nat) (bs : List Int) (w : World) (h : CodeAt w ca bs) :
    Calls Try.prog 10 #[.slice ca bs.length cc] w (DrawnM w) := by
  rw [show (DrawnM w) = fun e w' => ∃ a cap M, e = .returned (.slice a (M : List (List Int)).length cap) ∧ OwnM w' w.heap.size (.slice a M.length cap) M ∧ M.length ≤ 100 ∧ (∀ i, i < M.length → (row M i).length ≤ 100) ∧ Ext w w' from rfl]
  go_enter Try.func10, Try.ntmps10
  go_wp2_with fail
  refine (l01From_c _ _ _ _ h h.new).mono ?_
  rintro e w1 ⟨b, rfl, hE1, hb, hS1⟩
  go_wp2_with fail
  refine (l04Draw_c b _ hS1).mono ?_
  rintro e w2 ⟨a, cap, M, rfl, hO, hl, hr, hS2, hG2⟩
  go_wp2
  go_ret
  exact ⟨a, cap, M, rfl, hO.mono hE1.size, hl, hr, hE1.src hb hG2⟩
/-- a law's drawn matrix and two nodes -/
def DrawnMii (w : World) (e : Ending) (w' : World) : Prop := ∃ a cap M x y, e = .returned (.tuple #[.slice a (M : List (List Int)).length cap, .int .i64 x, .int .i64 y]) ∧ OwnM w' w.heap.size (.slice a M.length cap) M ∧ M.length ≤ 100 ∧ (∀ i, i < M.length → (row M i).length ≤ 100) ∧ I64 x ∧ I64 y ∧ Ext w w'
theorem DrawCanReach_c (ca : Option Addr) (cc : Nat) (bs : List Int) (w : World) (h : CodeAt w ca bs) :
    Calls Try.prog 13 #[.slice ca bs.length cc] w (DrawnMii w) := by
  rw [show (DrawnMii w) = fun e w' => ∃ a cap M x y, e = .returned (.tuple #[.slice a (M : List (List Int)).length cap, .int .i64 x, .int .i64 y]) ∧ OwnM w' w.heap.size (.slice a M.length cap) M ∧ M.length ≤ 100 ∧ (∀ i, i < M.length → (row M i).length ≤ 100) ∧ I64 x ∧ I64 y ∧ Ext w w' from rfl]
  go_enter Try.func13, Try.ntmps13
  go_wp2_with fail
  refine (l01From_c _ _ _ _ h h.new).mono ?_
  rintro e w1 ⟨b, rfl, hE1, hb, hS1⟩
  have hbw := hS1.lt
  go_wp2_with fail
  refine (l05DrawNode_c b _ hS1).mono ?_
  rintro e w2 ⟨a, cap, M, x, rfl, hO, hl, hr, hx, hS2, hG2⟩
  have HR := Lib.hid (And.intro hr hx)
  clear hr
  go_wp2_with fail
  refine (l01Next_c b _ _ hS2 (by omega) (by omega)).mono ?_
  rintro e w4 ⟨y, rfl, hy, hS4, hG4⟩
  have hyI : I64 y := by
    obtain ⟨h1, h2, h3⟩ := hy
    by_cases e : (M.length : Int) ≤ 1
    · rw [h2 e]; exact ⟨by decide, by decide⟩
    · have := h3 (by omega)
      exact ⟨by omega, by omega⟩
  have hO4 := hO.drawnB hbw hG4
  have hE4 := (hE1.src hb hG2).src hb hG4
  clear hy hO hG2 hG4
  go_wp2
  go_ret3
  exact ⟨a, cap, M, x, y, rfl, hO4.mono hE1.size, hl, HR.out.1, HR.out.2, hyI, hE4⟩
end Go.Proofs.Ytokhkpbebimohaa
