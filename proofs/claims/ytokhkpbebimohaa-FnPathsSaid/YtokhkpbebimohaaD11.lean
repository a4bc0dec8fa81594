/- Contracts of the draws of matrices with ratios. Conditions: the source reads. -/
import Derived.Test.YtokhkpbebimohaaD9
import Derived.Test.YtokhkpbebimohaaD2
import Derived.Test.YtokhkpbebimohaaGF
import Derived.Deep.RegionWith
namespace Go.Proofs.Ytokhkpbebimohaa
set_option linter.unusedVariables false
set_option linter.unusedSimpArgs false
open Go.RowKit

theorem ratio_done {w w5 : World} {b B : Nat} {v : Value} {M : List (List Int)} (hO : OwnM w5 B v M) (hB : w.heap.size < B) (hS : Src w5 b) (hb : b < w.heap.size) (hG : w.grownBy w5 (some b)) (p q : Value) :
    OwnM ((w5.setCell ⟨w.heap.size, 0, none⟩ p).setCell ⟨w.heap.size, 1, none⟩ q) w.heap.size v M ∧ Src ((w5.setCell ⟨w.heap.size, 0, none⟩ p).setCell ⟨w.heap.size, 1, none⟩ q) b ∧ w.grownBy ((w5.setCell ⟨w.heap.size, 0, none⟩ p).setCell ⟨w.heap.size, 1, none⟩ q) (some b) := by
  refine ⟨?_, (hS.past (c := w.heap.size) (j := 0) hb p).past (c := w.heap.size) (j := 1) hb q, grownBy_setNew (grownBy_setNew hG (p := ⟨w.heap.size, 0, none⟩) (Nat.le_refl _) p) (p := ⟨w.heap.size, 1, none⟩) (Nat.le_refl _) q⟩
  exact ((hO.chg (Chg.set w5 ⟨w.heap.size, 0, none⟩ p) (fun k hk => .inl (by simp only at hk; omega))).chg (Chg.set _ ⟨w.heap.size, 1, none⟩ q) (fun k hk => .inl (by simp only at hk; omega))).mono (Nat.le_of_lt hB)
theorem tabV_rat {x : List (List Int)} (h : (tabV x).2 = 0) : (-1000000 ≤ (tabV x).1.1 ∧ (tabV x).1.1 ≤ 1000000) ∧ (1 ≤ (tabV x).1.2 ∧ (tabV x).1.2 ≤ 1000000) := by
  unfold tabV at h ⊢
  split at h
  · rename_i hs
    rw [if_pos hs]
    cases hb : bestO x x.length with
    | none => rw [hb] at h; simp [optT] at h
    | some r =>
      rw [hb] at h
      simp only [optT] at h ⊢
      unfold chkR at h ⊢
      split at h
      · rename_i hr
        rw [if_pos hr]; exact isRat_bd2 hr
      · simp at h
  · simp at h
/-- a drawn matrix and a ratio: new memory; the source goes on -/
def DrMr (b : Nat) (w : World) (e : Ending) (w' : World) : Prop := ∃ a cap M x y, e = .returned (.tuple #[.slice a (M : List (List Int)).length cap, .agg #[.int .i64 x, .int .i64 y]]) ∧ OwnM w' w.heap.size (.slice a M.length cap) M ∧ M.length ≤ 100 ∧ Src w' b ∧ w.grownBy w' (some b)
theorem l01Ratio_ex (num den : Int) (w : World) (hn : -4000000000000000000 ≤ num ∧ num ≤ 4000000000000000000) (hd : -4000000000000000000 ≤ den ∧ den ≤ 4000000000000000000) (h0 : den ≠ 0) :
    Calls Try.prog 145 #[.int .i64 num, .int .i64 den] w fun e w' => ∃ p q : Int, e = .returned (.agg #[.int .i64 p, .int .i64 q]) ∧ Ext w w' :=
  (l01Ratio_c num den w hn hd h0).mono fun e w' ⟨h1, h2⟩ => ⟨_, _, h1, h2⟩
set_option maxRecDepth 100000 in
set_option maxHeartbeats 4000000 in
theorem l04DrawRatio_c (b : Nat) (w : World) (h : Src w b) : Calls Try.prog 115 #[.pointer (some ⟨b, 0, none⟩)] w (DrMr b w) := by
  have hbw := h.lt
  rw [show (DrMr b w) = fun e w' => ∃ a cap M x y, e = .returned (.tuple #[.slice a (M : List (List Int)).length cap, .agg #[.int .i64 x, .int .i64 y]]) ∧ OwnM w' w.heap.size (.slice a M.length cap) M ∧ M.length ≤ 100 ∧ Src w' b ∧ w.grownBy w' (some b) from rfl]
  obtain ⟨W, hW, HB, hs2, hE0⟩ := alloc2_facts w (.int .i64 0) (.int .i64 0) 55
  have hS0 := h.ext hE0
  have hG0 := grownBy_ext (some b) hE0
  have hcb : w.heap.size ≠ b := by omega
  clear h
  go_enter Try.func115, Try.ntmps115
  go_wp2_with fail
  refine (l04Draw_c b _ hS0).mono ?_
  rintro e w1 ⟨a, cap, M, rfl, hO1, hl, -, hS1, hG1⟩
  have HB1 := HB.grown hG1 hcb
  replace hG1 := grownBy_trans hG0 hG1
  have hcy := specCyc_c a cap M w1 hO1.mat
  have hrat := fun h => tabV_rat (x := M) h
  generalize tabV M = T at *
  have HCy := Lib.hid hcy
  have HRat := Lib.hid hrat
  clear hcy hrat hS0 hG0 HB
  go_wp2_with fail
  refine HCy.out.mono ?_
  rintro e w2 ⟨rfl, E2⟩
  obtain ⟨W3, hW3, HC, HC2, hs4, hE4, hE5⟩ := box_putE w2 (.int .i64 T.1.1) (.int .i64 T.1.2) 55
  obtain ⟨q0, q1, p0, p1⟩ := HC
  have hE25 := E2.trans hE5
  have hOP := hO1.ext hE25
  have hSP := hS1.ext hE25
  have HBP := HB1.ext hE25
  have hGP := grownBy_trans hG1 (grownBy_ext (some b) hE25)
  obtain ⟨P, hP⟩ : ∃ P, (W3.setCell ⟨w2.heap.size, 0, none⟩ (.int .i64 T.1.1)).setCell ⟨w2.heap.size, 1, none⟩ (.int .i64 T.1.2) = P := ⟨_, rfl⟩
  rw [hP] at HC2 hOP hSP HBP hGP
  have hBW : w.heap.size < W.heap.size := by omega
  have h2b : w2.heap.size ≠ b := by have := hS1.lt; have := E2.size; omega
  have h2w : w2.heap.size ≠ w.heap.size := by have := E2.size; have := hO1.mat; have := HB1.lt; omega
  have hfin : ∀ (w5 : World) (p q : Int), P.grownBy w5 (some b) → Src w5 b → ∃ M', M' = M ∧ OwnM ((w5.setCell ⟨w.heap.size, 0, none⟩ (.int .i64 p)).setCell ⟨w.heap.size, 1, none⟩ (.int .i64 q)) w.heap.size (.slice a M.length cap) M ∧ Src ((w5.setCell ⟨w.heap.size, 0, none⟩ (.int .i64 p)).setCell ⟨w.heap.size, 1, none⟩ (.int .i64 q)) b ∧ w.grownBy ((w5.setCell ⟨w.heap.size, 0, none⟩ (.int .i64 p)).setCell ⟨w.heap.size, 1, none⟩ (.int .i64 q)) (some b) := fun w5 p q hG hS =>
    ⟨M, rfl, ratio_done (hOP.drawnB (by omega) hG) hBW hS hbw (grownBy_trans hGP hG) _ _⟩
  have HFin := Lib.hid hfin
  clear hfin hO1 hS1 HB1 hG1 HCy E2 hE5 hE25
  obtain ⟨c0, c1, -, -⟩ := HC2
  by_cases hT : T.2 = 0
  case neg =>
    have hT' : (T.2 != 0) = true := by simpa using hT
    clear hT
    go_wp2_with fail
    refine (l01DrawRatio_c b _ hSP).mono ?_
    rintro e w5 ⟨p, q, rfl, -, -, hS5, hG5⟩
    have HB5 := HBP.grown hG5 hcb
    obtain ⟨d0, d1, g0, g1⟩ := HB5
    obtain ⟨M', -, k1, k2, k3⟩ := HFin.out w5 p q hG5 hS5
    go_wp2
    exact bodyPost_ret (v := .tuple #[.slice a M.length cap, .agg #[.int .i64 p, .int .i64 q]]) (by simp [results, Try.results115, go_sem, d0, d1]) rfl ⟨a, cap, M, p, q, rfl, k1, hl, k2, k3⟩

  have hT' : (T.2 != 0) = false := by rw [hT]; rfl
  obtain ⟨⟨r1, r2⟩, r3, r4⟩ := HRat.out hT
  clear hT
  go_wp2_with fail
  refine (l01Next_c b _ _ hSP (by omega) (by omega)).mono ?_
  rintro e w4 ⟨z4, rfl, -, hS4, hG4⟩
  have HB4 := HBP.grown hG4 hcb
  replace c0 := hG4.cell c0 (by simpa using h2b)
  replace c1 := hG4.cell c1 (by simpa using h2b)
  by_cases hz4 : z4 = 0
  · have hz' : (z4 == 0) = true := by rw [hz4]; rfl
    clear hz4
    go_wp2_with fail
    refine (l01DrawRatio_c b _ hS4).mono ?_
    rintro e w5 ⟨p, q, rfl, -, -, hS5, hG5⟩
    have HB5 := HB4.grown hG5 hcb
    replace hG5 := grownBy_trans hG4 hG5
    obtain ⟨d0, d1, g0, g1⟩ := HB5
    obtain ⟨M', -, k1, k2, k3⟩ := HFin.out w5 p q hG5 hS5
    go_wp2
    exact bodyPost_ret (v := .tuple #[.slice a M.length cap, .agg #[.int .i64 p, .int .i64 q]]) (by simp [results, Try.results115, go_sem, d0, d1]) rfl ⟨a, cap, M, p, q, rfl, k1, hl, k2, k3⟩

  have hz' : (z4 == 0) = false := by rw [beq_eq_false_iff_ne]; exact hz4
  clear hz4
  go_wp2_with fail
  refine (l01Next_c b _ _ hS4 (by omega) (by omega)).mono ?_
  rintro e w5 ⟨z5, rfl, -, hS5, hG5⟩
  have HB5 := HB4.grown hG5 hcb
  replace c0 := hG5.cell c0 (by simpa using h2b)
  replace c1 := hG5.cell c1 (by simpa using h2b)
  replace hG5 := grownBy_trans hG4 hG5
  by_cases hz5 : z5 = 0
  · have hz5' : (z5 == 0) = true := by rw [hz5]; rfl
    clear hz5
    obtain ⟨d0, d1, g0, g1⟩ := HB5
    have hk := HFin.out w5.drew T.1.1 T.1.2 (grownBy_drew hG5) hS5.drew
    have HK := Lib.hid hk
    clear hk
    go_wp2_with fail
    go_region
    all_goals
      obtain ⟨M', -, k1, k2, k3⟩ := HK.out
      go_wp2
      exact bodyPost_ret (v := .tuple #[.slice a M.length cap, .agg #[.int .i64 T.1.1, .int .i64 T.1.2]]) (by simp [results, Try.results115, go_sem, d0, d1]) rfl ⟨a, cap, M, T.1.1, T.1.2, rfl, k1, hl, k2, k3⟩
  have hz5' : (z5 == 0) = false := by rw [beq_eq_false_iff_ne]; exact hz5
  clear hz5
  have hGd := grownBy_drew hG5
  have hSd := hS5.drew
  have HBd := HB5.ext (Ext.refl w5).drew
  have c0d : w5.drew.cell? ⟨w2.heap.size, 0, none⟩ = some (.int .i64 T.1.1) := c0
  have c1d : w5.drew.cell? ⟨w2.heap.size, 1, none⟩ = some (.int .i64 T.1.2) := c1
  clear hG4 hG5 hS4 hS5 HB4 HB5 HBP hSP hOP hGP HRat q0 q1 p0 p1
  go_wp2_with fail
  go_region_with ((first
    | (go_at_call 67; refine (l01Next_c b _ _ (by assumption) (by omega) (by omega)).mono ?_; rintro e w7 ⟨z, rfl, ⟨hz1, -, hz2⟩, hS7, hG7⟩; have hz3 := hz2 (by decide); have HB7 := Box2.grown (by assumption) hG7 hcb; have c07 := hG7.cell (a := ⟨w2.heap.size, 0, none⟩) (v := .int .i64 T.1.1) (by assumption) (by simpa using h2b); have c17 := hG7.cell (a := ⟨w2.heap.size, 1, none⟩) (v := .int .i64 T.1.2) (by assumption) (by simpa using h2b); have hGG := grownBy_trans (a := P) (by assumption) hG7; clear hG7 hz2)
    | (go_at_call 145; refine (l01Ratio_ex _ _ _ (by simp only [IntKind.wrap_i64]; omega) (by simp only [IntKind.wrap_i64]; omega) (by simp only [IntKind.wrap_i64]; omega)).mono ?_; rintro e w9 ⟨p9, q9, rfl, E9⟩; have HB9 := Box2.ext (b := w.heap.size) (by assumption) E9; have hS9 := Src.ext (b := b) (by assumption) E9; have hG9 := grownBy_trans (a := P) (r := some b) (by assumption) (grownBy_ext (some b) E9); obtain ⟨d0, d1, g0, g1⟩ := HB9)))
  all_goals
    obtain ⟨M', -, k1, k2, k3⟩ := HFin.out w9 p9 q9 hG9 hS9
    go_wp2
    exact bodyPost_ret (v := .tuple #[.slice a M.length cap, .agg #[.int .i64 p9, .int .i64 q9]]) (by simp [results, Try.results115, go_sem, d0, d1]) rfl ⟨a, cap, M, p9, q9, rfl, k1, hl, k2, k3⟩
end Go.Proofs.Ytokhkpbebimohaa
