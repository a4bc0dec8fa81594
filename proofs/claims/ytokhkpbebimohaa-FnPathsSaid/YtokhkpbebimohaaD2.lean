/- More draws: numbers for a ratio, ratios. Conditions: the code lies in memory. -/
import Derived.Deep.AppendLies
import Derived.Deep.RegionWith
import Derived.Test.YtokhkpbebimohaaD1
namespace Go.Proofs.Ytokhkpbebimohaa
set_option linter.unusedVariables false
open Go.RowKit

theorem Box2.grown {w w' : World} {c b : Nat} {x y : Value} (h : Box2 w c x y) (g : w.grownBy w' (some b)) (hne : c ≠ b) : Box2 w' c x y :=
  ⟨g.cell h.c0 (by simpa using hne), g.cell h.c1 (by simpa using hne), by rw [World.grownBy.frozen_far g ⟨c, 0, none⟩ h.lt (by simpa using hne)]; exact h.f0, by rw [World.grownBy.frozen_far g ⟨c, 1, none⟩ h.lt (by simpa using hne)]; exact h.f1⟩
theorem Box2.put {w : World} {b : Nat} {x y : Value} (h : Box2 w b x y) (x' y' : Value) : Box2 ((w.setCell ⟨b, 0, none⟩ x').setCell ⟨b, 1, none⟩ y') b x' y' := by
  have h0 := h.c0; have h1 := h.c1
  have k1 : (w.setCell ⟨b, 0, none⟩ x').cell? ⟨b, 1, none⟩ = some y := by rw [World.cell?_setCell_other _ _ _ _ (by simp)]; exact h1
  refine ⟨?_, World.cell?_setCell_same _ _ _ k1, by simp [h.f0], by simp [h.f1]⟩
  rw [World.cell?_setCell_other _ _ _ _ (by simp)]; exact World.cell?_setCell_same _ _ _ h0
theorem ratOf_bd {a b : Int} (ha : -40 ≤ a ∧ a ≤ 39) (hb : 1 ≤ b ∧ b ≤ 9) : (-40 ≤ (ratOf a b).1 ∧ (ratOf a b).1 ≤ 40) ∧ (-9 ≤ (ratOf a b).2 ∧ (ratOf a b).2 ≤ 9) := by
  have hs : sgnR a b = (a, b) := by unfold sgnR; rw [if_neg (by omega)]
  have h1 : (a.tdiv (gcdI a b)).natAbs ≤ a.natAbs := by rw [Int.natAbs_tdiv]; exact Nat.div_le_self _ _
  have h2 : (b.tdiv (gcdI a b)).natAbs ≤ b.natAbs := by rw [Int.natAbs_tdiv]; exact Nat.div_le_self _ _
  simp only [ratOf, hs]
  omega

set_option maxHeartbeats 2000000 in
theorem l01DrawRatio_c (b : Nat) (w : World) (h : Src w b) :
    Calls Try.prog 153 #[.pointer (some ⟨b, 0, none⟩)] w (fun e w' => ∃ x y, e = .returned (.agg #[.int .i64 x, .int .i64 y]) ∧ I64 x ∧ I64 y ∧ Src w' b ∧ w.grownBy w' (some b)) := by
  have hbw : b < w.heap.size := by obtain ⟨ca, cc, bs, t, s, hX⟩ := h; exact hX.lt
  obtain ⟨W, hW, HB, hs, hE⟩ := alloc2_facts w (.int .i64 0) (.int .i64 0) 55
  have hS := h.ext hE
  have hG0 := grownBy_ext (some b) hE
  have hcb : w.heap.size ≠ b := by omega
  go_enter Try.func153, Try.ntmps153
  go_wp2_with fail
  refine (l01Next_c b _ _ hS (by omega) (by omega)).mono ?_
  rintro e w2 ⟨x, rfl, ⟨hx1, hx2, hx3⟩, hS2, hG2⟩
  have hx4 := hx3 (by decide)
  have HB2 := HB.grown hG2 hcb
  clear hx2 hx3
  go_wp2_with fail
  refine (l01Next_c b _ _ hS2 (by omega) (by omega)).mono ?_
  rintro e w3 ⟨y, rfl, ⟨hy1, hy2, hy3⟩, hS3, hG3⟩
  have hy4 := hy3 (by decide)
  have HB3 := HB2.grown hG3 hcb
  clear hy2 hy3
  obtain ⟨⟨r1, r2⟩, r3, r4⟩ := ratOf_bd (a := x - 40) (b := 1 + y) ⟨by omega, by omega⟩ ⟨by omega, by omega⟩
  go_wp2_with fail
  refine (l01Ratio_c _ _ _ (by omega) (by omega) (by omega)).mono ?_
  rintro e w4 ⟨rfl, hE4⟩
  generalize (ratOf (x - 40) (1 + y)).1 = p at *
  generalize (ratOf (x - 40) (1 + y)).2 = q at *
  have hS4 := hS3.ext hE4
  have HB4 := HB3.ext hE4
  obtain ⟨W5, hW5, HR, hs5, hE5⟩ := alloc2_facts w4 (.int .i64 0) (.int .i64 0) 55
  have HR' := HR
  obtain ⟨c0, c1, f0, f1⟩ := HR'
  have hR5 := HR.put (.int .i64 p) (.int .i64 q)
  have hc4 : b < w4.heap.size := Nat.lt_of_lt_of_le hbw (by have := hE.size; have := hG2.size; have := hG3.size; have := hE4.size; omega)
  have hw4 : w.heap.size ≤ w4.heap.size := by have := hE.size; have := hG2.size; have := hG3.size; have := hE4.size; omega
  have hS5 := ((hS4.ext hE5).past (j := 0) hc4 (.int .i64 p)).past (j := 1) hc4 (.int .i64 q)
  have hG5 := grownBy_new (j := 1) (grownBy_new (j := 0) (grownBy_trans (grownBy_trans hG0 hG2) (grownBy_trans (grownBy_trans hG3 (grownBy_ext _ hE4)) (grownBy_ext _ hE5))) hw4 (.int .i64 p)) hw4 (.int .i64 q)
  have hlt4 : w.heap.size < w4.heap.size := Nat.lt_of_lt_of_le (by omega : w.heap.size < W.heap.size) (by have := hG2.size; have := hG3.size; have := hE4.size; omega)
  have HB5 : Box2 ((W5.setCell ⟨w4.heap.size, 0, none⟩ (.int .i64 p)).setCell ⟨w4.heap.size, 1, none⟩ (.int .i64 q)) w.heap.size (.int .i64 0) (.int .i64 0) :=
    HB4.ext (((hE5.set (Nat.le_refl _) _)).set (Nat.le_refl _) _)
  go_wp2_with fail
  refine (l01Next_c b _ _ hS5 (by omega) (by omega)).mono ?_
  rintro e w6 ⟨z, rfl, ⟨hz1, hz2, hz3⟩, hS6, hG6⟩
  have HB6 := HB5.grown hG6 hcb
  have HR6 := hR5.grown hG6 (by omega)
  have hG6' := grownBy_trans hG5 hG6
  clear hz1 hz2 hz3 c0 c1 f0 f1 hR5 HB5 hS5 hG6 hG5 HR HB4 hS4
  obtain ⟨c0, c1, f0, f1⟩ := HR6
  have HB6' := HB6
  obtain ⟨d0, d1, g0, g1⟩ := HB6'
  by_cases hz0 : z = 0
  · subst hz0
    go_wp2_with fail
    refine bodyPost_ret (v := .agg #[.int .i64 (2 * p), .int .i64 (2 * q)]) (by simp [results, Try.results153, go_sem, d0, d1]) rfl ⟨_, _, rfl, ⟨by omega, by omega⟩, ⟨by omega, by omega⟩, ?_, ?_⟩
    · exact (hS6.past hbw _).past hbw _
    · exact grownBy_new (grownBy_new hG6' (Nat.le_refl _) _) (Nat.le_refl _) _
  by_cases hz1 : z = 1
  · subst hz1
    have hA := (hS6.alloc (.cells #[.int .i64 1000000, .int .i64 1000001, .int .i64 (-1000000)] 2))
    go_wp2_with fail
    refine (l01Pick_c b _ _ [1000000, 1000001, -1000000] _ hA (ints_lit w6 [1000000, 1000001, -1000000] (by decide)) (by decide) (by decide) (new_ne hS6)).mono ?_
    rintro e w7 ⟨x7, rfl, hx7, hS7, hG7⟩
    have hE6 := (Ext.refl w6).alloc (.cells #[.int .i64 1000000, .int .i64 1000001, .int .i64 (-1000000)] 2)
    have HB7 := (HB6.ext hE6).grown hG7 hcb
    have hG7' := grownBy_trans hG6' (grownBy_trans (grownBy_ext _ hE6) hG7)
    have hB := hS7.alloc (.cells #[.int .i64 1, .int .i64 1000000, .int .i64 0, .int .i64 (-1)] 2)
    clear hA hG7
    go_wp2_with fail
    refine (l01Pick_c b _ _ [1, 1000000, 0, -1] _ hB (ints_lit w7 [1, 1000000, 0, -1] (by decide)) (by decide) (by decide) (new_ne hS7)).mono ?_
    rintro e w8 ⟨x8, rfl, hx8, hS8, hG8⟩
    have hE7 := (Ext.refl w7).alloc (.cells #[.int .i64 1, .int .i64 1000000, .int .i64 0, .int .i64 (-1)] 2)
    have HB8 := (HB7.ext hE7).grown hG8 hcb
    have hG8' := grownBy_trans hG7' (grownBy_trans (grownBy_ext _ hE7) hG8)
    clear c0 c1 f0 f1 d0 d1 g0 g1 hB hG8
    have HB8' := HB8
    obtain ⟨d0, d1, g0, g1⟩ := HB8'
    go_wp2_with fail
    refine bodyPost_ret (v := .agg #[.int .i64 x7, .int .i64 x8]) (by simp [results, Try.results153, go_sem, d0, d1]) rfl ⟨_, _, rfl, ?_, ?_, ?_, ?_⟩
    · refine nth_I64 (fun i hi => ?_) hx7
      have : i = 0 ∨ i = 1 ∨ i = 2 := by simp at hi; omega
      rcases this with rfl | rfl | rfl <;> exact ⟨by decide, by decide⟩
    · exact four_I64 ⟨by decide, by decide⟩ ⟨by decide, by decide⟩ ⟨by decide, by decide⟩ ⟨by decide, by decide⟩ hx8
    · exact (hS8.past hbw _).past hbw _
    · exact grownBy_new (grownBy_new hG8' (Nat.le_refl _) _) (Nat.le_refl _) _
  · go_wp2_with fail
    refine bodyPost_ret (v := .agg #[.int .i64 p, .int .i64 q]) (by simp [results, Try.results153, go_sem, d0, d1]) rfl ⟨_, _, rfl, ⟨by omega, by omega⟩, ⟨by omega, by omega⟩, ?_, ?_⟩
    · exact (hS6.past hbw _).past hbw _
    · exact grownBy_new (grownBy_new hG6' (Nat.le_refl _) _) (Nat.le_refl _) _

end Go.Proofs.Ytokhkpbebimohaa
