/- Contract of l04DrawProof. Condition: the source reads. -/
import Derived.Test.YtokhkpbebimohaaD12
import Derived.Test.YtokhkpbebimohaaE7
import Derived.Deep.RegionWith
import Derived.Deep.CutRange
namespace Go.Proofs.Ytokhkpbebimohaa
set_option linter.unusedVariables false
set_option linter.unusedSimpArgs false
open Go.RowKit

theorem potV_pos {x : List (List Int)} {r : Int × Int} (h : (potV x r).2 = 0) : 1 ≤ (potV x r).1.length ∧ (potV x r).1.length ≤ 10 := by
  have h1 : (isSq x && isRat r) = true := by
    cases e : isSq x && isRat r
    · unfold potV at h; rw [e] at h; simp at h
    · rfl
  have h2 : starB (ent (shiftM x r.1 r.2)) x.length = true := by
    cases e : starB (ent (shiftM x r.1 r.2)) x.length
    · unfold potV at h; rw [h1, e] at h; simp at h
    · rfl
  have h3 := h1
  rw [Bool.and_eq_true] at h3
  have hl := isSq_rect h3.1
  unfold potV at h ⊢
  rw [h1, h2] at h ⊢
  simp only [if_true] at h ⊢
  unfold chkX at h ⊢
  split at h
  · rename_i e; rw [if_pos e]; simp only [mkRow_len]; omega
  · simp at h
/-- a drawn matrix, a ratio and a list: new memory; the source goes on -/
def DrMrl (b : Nat) (w : World) (e : Ending) (w' : World) : Prop := ∃ a cap M x y v cv xs, e = .returned (.tuple #[.slice a (M : List (List Int)).length cap, .agg #[.int .i64 x, .int .i64 y], .slice v (xs : List Int).length cv]) ∧ OwnM w' w.heap.size (.slice a M.length cap) M ∧ M.length ≤ 100 ∧ OwnI w' w.heap.size (.slice v xs.length cv) xs ∧ Src w' b ∧ w.grownBy w' (some b)
theorem int_box {w w5 : World} {B : Nat} {v : Value} {xs : List Int} (hO : OwnI w5 B v xs) (hB : w.heap.size < B) (p q : Value) : OwnI ((w5.setCell ⟨w.heap.size, 0, none⟩ p).setCell ⟨w.heap.size, 1, none⟩ q) w.heap.size v xs :=
  (((hO.farD (g := w.heap.size) hB 0 p).farD (g := w.heap.size) hB 1 q)).mono (Nat.le_of_lt hB)
theorem next_in {n : Nat} {z : Int} (h : NextP (n : Int) z) (hn : 1 ≤ n) : 0 ≤ z ∧ z < (n : Int) := by
  obtain ⟨h1, h2, h3⟩ := h
  by_cases e : (n : Int) ≤ 1
  · have := h2 e; omega
  · exact ⟨h1, h3 (by omega)⟩
theorem open_at {w : World} {B g n cap j : Nat} {xs : List Int} (h : OwnI w B (.slice (some ⟨g, 0, none⟩) n cap) xs) (hj : j < n) : w.cell? ⟨g, j, none⟩ = some (.int .i64 (nth xs j)) ∧ w.frozen? ⟨g, j, none⟩ = false := by
  obtain ⟨g', hg, -, -, hce, hfe⟩ := h.open (by omega)
  simp only [Option.some.injEq, Addr.mk.injEq, and_true] at hg
  subst hg
  exact ⟨hce j hj, hfe j⟩
theorem Same.set {B N g j : Nat} {w w1 : World} (h : Same B N w w1) (hg : N ≤ g) (v : Value) : Same B N w (w1.setCell ⟨g, j, none⟩ v) := fun k h1 h2 =>
  (Below.heap_setCell _ _ _ _ (by simp only; omega)).trans (h k h1 h2)
theorem Box2.farC {w : World} {c g j : Nat} {x y : Value} (h : Box2 w c x y) (hne : c ≠ g) (v : Value) : Box2 (w.setCell ⟨g, j, none⟩ v) c x y := by
  have hc : ∀ (i j : Nat), (⟨c, i, none⟩ : Addr) ≠ ⟨g, j, none⟩ := fun i j e => hne (by have := congrArg Addr.block e; simpa using this)
  exact ⟨(World.cell?_setCell_other _ _ _ _ (hc 0 j).symm).trans h.c0, (World.cell?_setCell_other _ _ _ _ (hc 1 j).symm).trans h.c1, by rw [frozen_set]; exact h.f0, by rw [frozen_set]; exact h.f1⟩
theorem l01Next_b (b : Nat) (n : Int) (w : World) (h : Src w b) (hn1 : -4000000000000000000 ≤ n) (hn2 : n ≤ 4000000000000000000) :
    Calls Try.prog 67 #[.pointer (some ⟨b, 0, none⟩), .int .i64 n] w fun e w' => ∃ k : Nat, e = .returned (.int .i64 (k : Int)) ∧ ((k : Int) < n ∨ n < 1) ∧ Src w' b ∧ w.grownBy w' (some b) :=
  (l01Next_c b n w h hn1 hn2).mono fun e w' ⟨z, h1, ⟨h2, h3, h4⟩, h5, h6⟩ => by
    obtain ⟨k, rfl⟩ := Int.eq_ofNat_of_zero_le h2
    refine ⟨k, h1, ?_, h5, h6⟩
    by_cases e1 : n ≤ 1
    · have := h3 e1; omega
    · have := h4 (by omega); omega
set_option maxRecDepth 100000 in
set_option maxHeartbeats 4000000 in
theorem l04DrawProof_c (b : Nat) (w : World) (h : Src w b) : Calls Try.prog 120 #[.pointer (some ⟨b, 0, none⟩)] w (DrMrl b w) := by
  have hbw := h.lt
  rw [show (DrMrl b w) = fun e w' => ∃ a cap M x y v cv xs, e = .returned (.tuple #[.slice a (M : List (List Int)).length cap, .agg #[.int .i64 x, .int .i64 y], .slice v (xs : List Int).length cv]) ∧ OwnM w' w.heap.size (.slice a M.length cap) M ∧ M.length ≤ 100 ∧ OwnI w' w.heap.size (.slice v xs.length cv) xs ∧ Src w' b ∧ w.grownBy w' (some b) from rfl]
  obtain ⟨W, hW, HB, hs2, hE0⟩ := alloc2_facts w (.int .i64 0) (.int .i64 0) 55
  have hS0 := h.ext hE0
  have hG0 := grownBy_ext (some b) hE0
  have hcb : w.heap.size ≠ b := by omega
  clear h
  go_enter Try.func120, Try.ntmps120
  go_wp2_with fail
  refine (l04DrawRatio_c b _ hS0).mono ?_
  rintro e w1 ⟨a, cap, M, x, y, rfl, hO1, hl, hS1, hG1⟩
  have HB1 := HB.grown hG1 hcb
  have hz1 := hG1.size
  replace hG1 := grownBy_trans hG0 hG1
  obtain ⟨W3, hW3, HC, HC2, hs4, hE4, hE5⟩ := box_putE w1 (.int .i64 x) (.int .i64 y) 55
  obtain ⟨q0, q1, p0, p1⟩ := HC
  have hOP := hO1.ext hE5
  have hSP := hS1.ext hE5
  have HBP := HB1.ext hE5
  have hGP := grownBy_trans hG1 (grownBy_ext (some b) hE5)
  obtain ⟨P, hP⟩ : ∃ P, (W3.setCell ⟨w1.heap.size, 0, none⟩ (.int .i64 x)).setCell ⟨w1.heap.size, 1, none⟩ (.int .i64 y) = P := ⟨_, rfl⟩
  rw [hP] at HC2 hOP hSP HBP hGP hE5
  have hszP : W.heap.size ≤ P.heap.size := Nat.le_trans hz1 hE5.size
  obtain ⟨c0, c1, -, -⟩ := HC2
  have hpc0 := c0
  have hpc := specPotOf_c a cap M x y P hOP.mat
  have hpl := fun h => potV_pos (x := M) (r := (x, y)) h
  generalize potV M (x, y) = V at *
  have HPc := Lib.hid hpc
  have HPl := Lib.hid hpl
  have h1b : w1.heap.size ≠ b := by have := hS1.lt; omega
  have hBW : w.heap.size < W.heap.size := by omega
  clear hpc hpl hS0 hG0 HB hO1 hS1 HB1 hG1 hE5
  go_wp2_with fail
  refine HPc.out.mono ?_
  rintro e w4 ⟨av, kv, rfl, hOv, hE4'⟩
  have hOM := hOP.ext hE4'
  have hS4 := hSP.ext hE4'
  have HB4 := HBP.ext hE4'
  have hG4 := grownBy_trans hGP (grownBy_ext (some b) hE4')
  replace c0 := hE4'.cell c0
  replace c1 := hE4'.cell c1
  have hfin : ∀ (w5 : World) (v : Option Addr) (kv : Nat) (xs : List Int), OwnM w5 W.heap.size (.slice a M.length cap) M → OwnI w5 P.heap.size (.slice v xs.length kv) xs → Src w5 b → w.grownBy w5 (some b) →
      OwnM ((w5.setCell ⟨w.heap.size, 0, none⟩ (.int .i64 x)).setCell ⟨w.heap.size, 1, none⟩ (.int .i64 y)) w.heap.size (.slice a M.length cap) M ∧ OwnI ((w5.setCell ⟨w.heap.size, 0, none⟩ (.int .i64 x)).setCell ⟨w.heap.size, 1, none⟩ (.int .i64 y)) w.heap.size (.slice v xs.length kv) xs ∧
      Src ((w5.setCell ⟨w.heap.size, 0, none⟩ (.int .i64 x)).setCell ⟨w.heap.size, 1, none⟩ (.int .i64 y)) b ∧ w.grownBy ((w5.setCell ⟨w.heap.size, 0, none⟩ (.int .i64 x)).setCell ⟨w.heap.size, 1, none⟩ (.int .i64 y)) (some b) := fun w5 v kv xs hM hI hS hG => by
    obtain ⟨r1, r2, r3⟩ := ratio_done hM hBW hS hbw hG (.int .i64 x) (.int .i64 y)
    exact ⟨r1, int_box hI (by omega) _ _, r2, r3⟩
  have HFin := Lib.hid hfin
  clear hfin
  by_cases hV : V.2 = 0
  case neg =>
    have hV' : (V.2 != 0) = true := by simpa using hV
    have hb4 : b < P.heap.size := by have := hSP.lt; exact this
    have hSd := hS4.drew
    have hl4 := hE4'.size
    clear hV hOv
    go_wp2_with fail
    go_region_with (go_at_call 87; refine (l02DrawVector_c b _ _ hSd (by omega) (by omega)).mono ?_; rintro e w7 ⟨v7, cv7, xs7, rfl, hO7, hl7, hS7, hG7⟩; have c0' := hG7.cell (a := ⟨w1.heap.size, 0, none⟩) (v := .int .i64 x) c0 (by simpa using h1b); have c1' := hG7.cell (a := ⟨w1.heap.size, 1, none⟩) (v := .int .i64 y) c1 (by simpa using h1b); obtain ⟨d0, d1, g0, g1⟩ := (HB4.ext (Ext.refl w4).drew).grown hG7 hcb)
    all_goals
      obtain ⟨k1, k2, k3, k4⟩ := HFin.out w7 v7 cv7 xs7 ((hOM.ext (Ext.refl w4).drew).drawnB (by omega) hG7) (hO7.mono hl4) hS7 (grownBy_trans (grownBy_drew hG4) hG7)
      go_wp2
      exact bodyPost_ret (v := .tuple #[.slice a M.length cap, .agg #[.int .i64 x, .int .i64 y], .slice v7 xs7.length cv7]) (by simp [results, Try.results120, go_sem, d0, d1]) rfl ⟨a, cap, M, x, y, v7, cv7, xs7, rfl, k1, hl, k2, k3, k4⟩
  have hV' : (V.2 != 0) = false := by rw [hV]; rfl
  obtain ⟨hn1, hn2⟩ := HPl.out hV
  clear hV
  go_wp2_with fail
  refine (l01Next_c b _ _ hS4 (by omega) (by omega)).mono ?_
  rintro e w5 ⟨z, rfl, -, hS5, hG5⟩
  have hb4 : b < P.heap.size := hSP.lt
  have hOM5 := hOM.drawnB (by omega) hG5
  have hOv5 := hOv.drawnB hb4 hG5
  obtain ⟨d0, d1, g0, g1⟩ := HB4.grown hG5 hcb
  replace c0 := hG5.cell c0 (by simpa using h1b)
  replace c1 := hG5.cell c1 (by simpa using h1b)
  have hSm4 : Same W.heap.size P.heap.size P w4 := fun k _ h2 => Below.block hE4' k h2
  have hSm5 := hSm4.drawn (b := b) (by omega) hE4'.size hG5
  have hz45 : P.heap.size ≤ w5.heap.size := Nat.le_trans hE4'.size hG5.size
  have hp1 : w1.heap.size < P.heap.size := by have := World.block_lt_of_cell? P ⟨w1.heap.size, 0, none⟩ hpc0; exact this
  replace hG5 := grownBy_trans hG4 hG5
  clear hOM hOv HB4 hG4 hS4 hSP hGP HBP hSm4
  by_cases hz : z = 0
  case neg =>
    have hz' : (z == 0) = false := by rw [beq_eq_false_iff_ne]; exact hz
    have hk := HFin.out w5.drew av kv V.1 (hOM5.ext (Ext.refl w5).drew) (hOv5.ext (Ext.refl w5).drew) hS5.drew (grownBy_drew hG5)
    have HK := Lib.hid hk
    clear hz hk
    go_wp2_with fail
    go_region
    all_goals
      obtain ⟨k1, k2, k3, k4⟩ := HK.out
      go_wp2
      exact bodyPost_ret (v := .tuple #[.slice a M.length cap, .agg #[.int .i64 x, .int .i64 y], .slice av V.1.length kv]) (by simp [results, Try.results120, go_sem, d0, d1]) rfl ⟨a, cap, M, x, y, av, kv, V.1, rfl, k1, hl, k2, k3, k4⟩
  have hz' : (z == 0) = true := by rw [hz]; rfl
  clear hz
  obtain ⟨g, hg, hBg, hgs, -, -⟩ := hOv5.open (by omega)
  subst hg
  have hgb : g ≠ b := by omega
  have hSd := hS5.drew
  have hGd := grownBy_drew hG5
  have hId := hOv5.ext (Ext.refl w5).drew
  have hSmd : Same W.heap.size P.heap.size P w5.drew := hSm5
  have hBd : Box2 w5.drew w.heap.size (.int .i64 0) (.int .i64 0) := ⟨d0, d1, g0, g1⟩
  have c0d : w5.drew.cell? ⟨w1.heap.size, 0, none⟩ = some (.int .i64 x) := c0
  have c1d : w5.drew.cell? ⟨w1.heap.size, 1, none⟩ = some (.int .i64 y) := c1
  have hzd : P.heap.size ≤ w5.drew.heap.size := hz45
  clear hS5 hG5 hOv5 hSm5 d0 d1 g0 g1 c0 c1 hOM5 hpc0
  go_upto_region 6 with fail
  go_cut [] from 31 to 42 (fun wx => ∃ xs : List Int, xs.length = V.1.length ∧ Src wx b ∧ w.grownBy wx (some b) ∧ Same W.heap.size P.heap.size P wx ∧ OwnI wx P.heap.size (.slice (some ⟨g, 0, none⟩) V.1.length kv) xs ∧ Box2 wx w.heap.size (.int .i64 0) (.int .i64 0) ∧ wx.cell? ⟨w1.heap.size, 0, none⟩ = some (.int .i64 x) ∧ wx.cell? ⟨w1.heap.size, 1, none⟩ = some (.int .i64 y))
  case first =>
    go_region_with (go_at_call 67; refine (l01Next_b b _ _ (by assumption) (by omega) (by omega)).mono ?_; first | (rintro e w7 ⟨k7, rfl, hk7, hS7, hG7⟩; have hk8 : k7 < V.1.length := (by omega); have hI7 := OwnI.drawnB (B := P.heap.size) (v := .slice (some ⟨g, 0, none⟩) V.1.length kv) (xs := V.1) (by assumption) hb4 hG7; have hM7 := Same.drawn (B := W.heap.size) (N := P.heap.size) (w := P) (by assumption) (by omega) (by assumption) hG7; have hB7 := Box2.grown (c := w.heap.size) (x := .int .i64 0) (y := .int .i64 0) (by assumption) hG7 hcb; have c07 := hG7.cell (a := ⟨w1.heap.size, 0, none⟩) (v := .int .i64 x) (by assumption) (by simpa using h1b); have c17 := hG7.cell (a := ⟨w1.heap.size, 1, none⟩) (v := .int .i64 y) (by assumption) (by simpa using h1b); have hz7 : P.heap.size ≤ w7.heap.size := Nat.le_trans (by assumption) hG7.size; have hGG := grownBy_trans (a := w) (by assumption) hG7; clear hG7; obtain ⟨x7, f7⟩ := open_at hI7 hk8) | (rintro e w7 ⟨k9, rfl, hk9, hS7, hG7⟩; have hI7 := OwnI.drawnB (B := P.heap.size) (v := .slice (some ⟨g, 0, none⟩) V.1.length kv) (xs := V.1) (by assumption) hb4 hG7; have hM7 := Same.drawn (B := W.heap.size) (N := P.heap.size) (w := P) (by assumption) (by omega) (by assumption) hG7; have hB7 := Box2.grown (c := w.heap.size) (x := .int .i64 0) (y := .int .i64 0) (by assumption) hG7 hcb; have c07 := hG7.cell (a := ⟨w1.heap.size, 0, none⟩) (v := .int .i64 x) (by assumption) (by simpa using h1b); have c17 := hG7.cell (a := ⟨w1.heap.size, 1, none⟩) (v := .int .i64 y) (by assumption) (by simpa using h1b); have hz7 : P.heap.size ≤ w7.heap.size := Nat.le_trans (by assumption) hG7.size; have hGG := grownBy_trans (a := w) (by assumption) hG7; clear hG7; try (have hxf := open_at hI7 hk8; obtain ⟨x7, f7⟩ := hxf)))
    all_goals
      have hR : ∀ u : Int, ∃ xs : List Int, xs.length = V.1.length ∧ Src (w7.setCell ⟨g, k7, none⟩ (.int .i64 u)) b ∧ w.grownBy (w7.setCell ⟨g, k7, none⟩ (.int .i64 u)) (some b) ∧ Same W.heap.size P.heap.size P (w7.setCell ⟨g, k7, none⟩ (.int .i64 u)) ∧ OwnI (w7.setCell ⟨g, k7, none⟩ (.int .i64 u)) P.heap.size (.slice (some ⟨g, 0, none⟩) V.1.length kv) xs ∧ Box2 (w7.setCell ⟨g, k7, none⟩ (.int .i64 u)) w.heap.size (.int .i64 0) (.int .i64 0) ∧ (w7.setCell ⟨g, k7, none⟩ (.int .i64 u)).cell? ⟨w1.heap.size, 0, none⟩ = some (.int .i64 x) ∧ (w7.setCell ⟨g, k7, none⟩ (.int .i64 u)).cell? ⟨w1.heap.size, 1, none⟩ = some (.int .i64 y) := fun u =>
        ⟨V.1.set k7 u, by simp, hS7.past (c := g) (j := k7) (by omega) _, grownBy_setNew hGG (p := ⟨g, k7, none⟩) (by simp only; omega) _, hM7.set hBg _, hI7.set k7 u, hB7.farC (by omega) _,
          (World.cell?_setCell_other _ _ _ _ (by intro e; have := congrArg Addr.block e; simp only at this; omega)).trans c07, (World.cell?_setCell_other _ _ _ _ (by intro e; have := congrArg Addr.block e; simp only at this; omega)).trans c17⟩
      have HRR := Lib.hid hR
      clear hR
      go_wp2_with fail
      go_meet
      exact HRR.out _
  case rest =>
  obtain ⟨xs, hxl, hS9, hG9, hM9, hI9, ⟨d0, d1, g0, g1⟩, c0, c1⟩ := hcut
  rw [← hxl] at hI9
  have hk := HFin.out _ (some ⟨g, 0, none⟩) kv xs ((hOP.agree hM9).ext (Ext.refl _).drew) (hI9.ext (Ext.refl _).drew) hS9.drew (grownBy_drew hG9)
  have HK := Lib.hid hk
  clear hk hI9 hM9
  go_wp2_with fail
  go_region
  all_goals
    obtain ⟨k1, k2, k3, k4⟩ := HK.out
    go_wp2
    exact bodyPost_ret (v := .tuple #[.slice a M.length cap, .agg #[.int .i64 x, .int .i64 y], .slice (some ⟨g, 0, none⟩) V.1.length kv]) (by simp [results, Try.results120, go_sem, d0, d1]) rfl ⟨a, cap, M, x, y, some ⟨g, 0, none⟩, kv, xs, (by rw [hxl]), k1, hl, k2, k3, k4⟩
end Go.Proofs.Ytokhkpbebimohaa
