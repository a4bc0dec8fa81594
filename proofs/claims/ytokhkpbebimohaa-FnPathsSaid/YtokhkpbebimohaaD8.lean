/- Contracts of l03Draw and of the draws that rest on it. Conditions: the source reads. -/
import Derived.Test.YtokhkpbebimohaaD7
import Derived.Deep.CutRange
import Derived.Deep.RegionWith
namespace Go.Proofs.Ytokhkpbebimohaa
set_option linter.unusedVariables false
set_option linter.unusedSimpArgs false
open Go.RowKit

theorem OwnI.farD {w : World} {B g : Nat} {v : Value} {xs : List Int} (h : OwnI w B v xs) (hg : g < B) (j : Nat) (u : Value) : OwnI (w.setCell ⟨g, j, none⟩ u) B v xs :=
  h.chg (Chg.set w ⟨g, j, none⟩ u) fun k hk e => by have := h.base k hk; simp only at e; omega
/-- blocks from B up to N are as they were -/
def Same (B N : Nat) (w w' : World) : Prop := ∀ k, B ≤ k → k < N → w'.heap[k]? = w.heap[k]?
theorem Same.drawn {B N b : Nat} {w w1 w2 : World} (h : Same B N w w1) (hb : b < B) (hN : N ≤ w1.heap.size) (g : w1.grownBy w2 (some b)) : Same B N w w2 := fun k h1 h2 =>
  (g.block k (by omega) (fun e => by simp only [Option.some.injEq] at e; omega)).trans (h k h1 h2)
theorem Same.app {B N : Nat} {w w1 w2 : World} {v : Value} {xs : List Int} (h : Same B N w w1) (hN : N ≤ w1.heap.size) (hO : OwnI w1 N v xs) {o : Obj} (g : (w1.alloc o).grownBy w2 v.ownBlock) : Same B N w w2 := fun k h1 h2 => by
  rw [g.block k (by have := ((Ext.refl w1).alloc o).size; omega) (fun e => by have := hO.base k e.symm; omega), Below.block ((Ext.refl w1).alloc o) k (by omega)]
  exact h k h1 h2
theorem isSq_shape {M : List (List Int)} (h : isSq M = true) : Rect M M.length M.length ∧ 1 ≤ M.length ∧ M.length ≤ 10 := isSq_rect h

set_option maxRecDepth 100000 in
set_option maxHeartbeats 4000000 in
theorem l03Draw_c (b : Nat) (w : World) (h : Src w b) : Calls Try.prog 86 #[.pointer (some ⟨b, 0, none⟩)] w (DrM b w) := by
  have hbw := h.lt
  rw [show (DrM b w) = fun e w' => ∃ a cap M, e = .returned (.slice a (M : List (List Int)).length cap) ∧ OwnM w' w.heap.size (.slice a M.length cap) M ∧ M.length ≤ 100 ∧ (∀ i, i < M.length → (row M i).length ≤ 100) ∧ Src w' b ∧ w.grownBy w' (some b) from rfl]
  go_enter Try.func86, Try.ntmps86
  go_wp2_with fail
  refine (l02DrawSquare_c b _ h).mono ?_
  rintro e w1 ⟨a, cap, M, rfl, hO, hl, hr, hS1, hG1⟩
  have HR := Lib.hid hr
  clear hr h
  cases hs : isSq M
  · go_wp2_with fail
    refine (asB hs (l02Square_c _ _ _ _ hO.mat)).mono ?_
    rintro e w2 ⟨rfl, hq⟩
    have hO2 := hO.ext hq.ext
    have hS2 := hS1.ext hq.ext
    have hG2 := grownBy_qt hG1 hq
    clear hO hS1 hG1
    go_wp2
    go_ret
    exact ⟨a, cap, M, rfl, hO2, hl, HR.out, hS2, hG2⟩
  obtain ⟨rx, hn1, hn2⟩ := isSq_shape hs
  go_wp2_with fail
  refine (asB hs (l02Square_c _ _ _ _ hO.mat)).mono ?_
  rintro e w2 ⟨rfl, hq⟩
  have hO2 := hO.ext hq.ext
  have hS2 := hS1.ext hq.ext
  have hG2 := grownBy_qt hG1 hq
  clear hO hS1 hG1 hs hq
  go_wp2_with fail
  refine (l01Next_c b _ _ hS2 (by omega) (by omega)).mono ?_
  rintro e w3 ⟨y, rfl, -, hS3, hG3⟩
  have hO3 := hO2.drawnB hbw hG3
  replace hG3 := grownBy_trans hG2 hG3
  clear hO2 hS2 hG2
  by_cases hy : y = 0
  · have hy' : (y == 0) = true := by rw [hy]; rfl
    clear hy
    go_wp2
    go_ret
    exact ⟨a, cap, M, rfl, hO3, hl, HR.out, hS3, hG3⟩
  have hy' : (y == 0) = false := by rw [beq_eq_false_iff_ne]; exact hy
  clear hy
  obtain ⟨g, A, C, rfl, hM⟩ := hO3.open (by omega)
  obtain ⟨n, hn⟩ : ∃ n, M.length = n := ⟨_, rfl⟩
  rw [hn] at rx hn1 hn2 hl ⊢
  have hAB : ∀ k, k < n → ∃ r, A k = some ⟨r, 0, none⟩ ∧ w.heap.size ≤ r ∧ r < w3.heap.size := fun k hk => by
    obtain ⟨r, h1, h2, h3, _⟩ := hM.addr (by rw [hn]; exact hk) (by rw [rx.2 k hk]; omega)
    exact ⟨r, h1, h2, h3⟩
  have hgb : w.heap.size ≤ g ∧ g < w3.heap.size := ⟨hM.hB, hM.lt⟩
  have HAB := Lib.hid hAB
  have hX0 := OwnI.empty w3 w3.heap.size (Nat.le_refl _)
  have hS0 := hS3.alloc (.cells #[] 2)
  have hG0 := grownBy_trans hG3 (grownBy_ext (some b) ((Ext.refl w3).alloc (.cells #[] 2)))
  have hF0 : Same w.heap.size w3.heap.size w3 (w3.alloc (.cells #[] 2)) := fun k h1 h2 => Below.block ((Ext.refl w3).alloc (.cells #[] 2)) k h2
  have hz0 : w3.heap.size ≤ (w3.alloc (.cells #[] 2)).heap.size := by simp
  have HM := Lib.hid (And.intro hM rx)
  have hb3 : b < w3.heap.size := by have := hG3.size; omega
  clear hO3 hM hAB HR rx hS3 hG3
  go_wp2
  go_loopw [4, 5] (fun s i wr => ∃ (k : Nat) (xs : List Int), k ≤ n ∧ xs.length = k ∧ i = .int .i64 k ∧ Src wr b ∧ w.grownBy wr (some b) ∧ OwnI wr w3.heap.size s xs ∧ w3.heap.size ≤ wr.heap.size ∧ Hid (Same w.heap.size w3.heap.size w3 wr)) (fun _ i _ => n - (intOf i).toNat)
  case atStart => exact ⟨0, [], Nat.zero_le _, rfl, rfl, hS0, hG0, hX0, hz0, hF0⟩
  case round =>
    obtain ⟨k, xs, hk, hxl, rfl, hS, hG, hX, hz, hF⟩ := hrel
    clear hS0 hG0 hX0 hz0 hF0
    by_cases hlt : k < n
    · go_wp2_with fail
      refine (l01Next_c b _ _ hS (by omega) (by omega)).mono ?_
      rintro e w4 ⟨z, rfl, -, hS4, hG4⟩
      have hX4 := hX.drawnB hb3 hG4
      have hF4 := hF.out.drawn hbw hz hG4
      have hz4 := hG4.size
      replace hG4 := grownBy_trans hG hG4
      have hln : xs.length ≤ 1000000000 := by omega
      have hs : w3.heap.size ≤ (w4.alloc (.cells #[.int .i64 z] 2)).heap.size := by simp; omega
      have HF4 := Lib.hid hF4
      clear hS hG hX hF hF4
      go_wp2_with (at_builtin; refine app_i rfl _ _ rfl w3.heap.size _ _ rfl (hX4.ext ((Ext.refl w4).alloc _)) ⟨w4.heap.size, 0, none⟩ 1 z rfl (cell_one _ _ _) hln hs ?_)
      intro v' w5 hX5 hg
      have hG5 := grownBy_app hG4 hX4 (by omega) hg
      have hS5 := (hS4.alloc (.cells #[.int .i64 z] 2)).row hg fun k hk => by have := hX4.base k hk; omega
      have hF5 := Lib.hid (HF4.out.app (by omega) hX4 hg)
      have hz5 : w3.heap.size ≤ w5.heap.size := Nat.le_trans hs hg.size
      clear hS4 hG4 hX4 HF4 hg hs
      go_wp2
      go_roundw
      case rel => exact ⟨k + 1, xs ++ [z], by omega, by simp; omega, by go_num, hS5, hG5, hX5, hz5, hF5⟩
      case measure => simp [intOf]; omega
    · obtain rfl : n = k := by omega
      have hM2 := HM.out.1.agree (w' := wr) hF.out
      have hR := Lib.hid HM.out.2
      obtain ⟨ax, cx, rfl, -⟩ := hX.at
      obtain ⟨gx, rfl, hBx, hgx, -, -⟩ := hX.open (by omega)
      rw [hxl] at hX ⊢
      clear hF HM hgx
      have hX2 := hX
      go_wp2
      go_loopw [6] (fun i wr => ∃ (k : Nat) (M : List (List Int)), k ≤ n ∧ i = .int .i64 k ∧ Src wr b ∧ w.grownBy wr (some b) ∧ OwnI wr w3.heap.size (.slice (some ⟨gx, 0, none⟩) n cx) xs ∧ Mat wr w.heap.size g cap A C M ∧ Hid (Rect M n n)) (fun i _ => n - (intOf i).toNat)
      case atStart => exact ⟨0, M, Nat.zero_le _, rfl, hS, hG, hX, hM2, hR⟩
      case round =>
        obtain ⟨k, M, hk, rfl, hS, hG, hX, hM2, hR⟩ := hrel
        by_cases hlt : k < n
        · go_wp2
          go_loopw [7] (fun i wr => ∃ (t : Nat) (M : List (List Int)), t ≤ n ∧ i = .int .i64 t ∧ Src wr b ∧ w.grownBy wr (some b) ∧ OwnI wr w3.heap.size (.slice (some ⟨gx, 0, none⟩) n cx) xs ∧ Mat wr w.heap.size g cap A C M ∧ Hid (Rect M n n)) (fun i _ => n - (intOf i).toNat)
          case atStart => exact ⟨0, M, Nat.zero_le _, rfl, hS, hG, hX, hM2, hR⟩
          case round =>
            obtain ⟨t, M3, ht, rfl, hS3, hG3, hX3, hM3, hR3⟩ := hrel
            clear hS hG hX hM2 hX2
            by_cases hltn : t < n
            · have hkM : k < M3.length := by rw [hR3.out.1]; exact hlt
              have hrk : (row M3 k).length = n := hR3.out.2 k hlt
              have c1 := hM3.cell hkM
              obtain ⟨r, hA, hBr, hrs⟩ := HAB.out k hlt
              obtain ⟨r', hA', -, -, hce, hfe⟩ := hM3.addr hkM (by rw [hrk]; omega)
              rw [hA] at hA'
              simp only [Option.some.injEq, Addr.mk.injEq, and_true] at hA'
              subst hA'
              rw [hrk, hA] at c1
              have c2 := hce t (by rw [hrk]; exact hltn)
              have f2 := hfe t
              obtain ⟨gx', hgx', -, -, hxe, -⟩ := hX3.open (by omega)
              simp only [Option.some.injEq, Addr.mk.injEq, and_true] at hgx'
              subst hgx'
              have x1 := hxe k hlt
              have x2 := hxe t hltn
              clear hce hfe hxe
              by_cases hc : (fin (ent M3 k t) && inR (ent M3 k t) (-100) 100) = true
              · rw [Bool.and_eq_true] at hc
                have HC := Lib.hid hc
                have hgb2 : g ≠ b := by omega
                have hrb : r ≠ b := by omega
                have hxb : gx ≠ b := by omega
                have HM3 := Lib.hid hM3
                have HS3 := Lib.hid hS3
                have HG3 := Lib.hid hG3
                have HX3 := Lib.hid hX3
                have HAA := Lib.hid (And.intro hkM (And.intro hA hBr))
                clear hc hM3 hS3 hG3 hX3 hA hrk
                generalize ent M3 k t = z0 at *
                generalize nth xs k = xk at *
                generalize nth xs t = xt at *
                go_wp2_with fail
                refine (asB HC.out.1 (l01Finite_c _ _)).mono ?_
                rintro e w' ⟨rfl, rfl⟩
                go_wp2_with fail
                refine (asB HC.out.2 (l01In_c _ _ _ _)).mono ?_
                rintro e w' ⟨rfl, rfl⟩
                go_upto_region 16 with fail
                go_cut [] from 61 to 78 (fun wx => ∃ M4 : List (List Int), Src wx b ∧ w.grownBy wx (some b) ∧ OwnI wx w3.heap.size (.slice (some ⟨gx, 0, none⟩) n cx) xs ∧ Mat wx w.heap.size g cap A C M4 ∧ Hid (Rect M4 n n))
                case first =>
                  go_region_with (go_at_call 67; refine (l01Next_c b _ _ HS3.out.drew (by omega) (by omega)).mono ?_; rintro e w7 ⟨z, rfl, -, hS7, hG7⟩; have c1' := (hG7.cell_far ⟨g, k, none⟩ (World.block_lt_of_cell? wr.drew ⟨g, k, none⟩ c1) (fun e => hgb2 (by simpa using e))).trans c1; have c2' := (hG7.cell_far ⟨r, t, none⟩ (World.block_lt_of_cell? wr.drew ⟨r, t, none⟩ c2) (fun e => hrb (by simpa using e))).trans c2; have f2' := (hG7.frozen_far ⟨r, t, none⟩ (World.block_lt_of_cell? wr.drew ⟨r, t, none⟩ c2) (fun e => hrb (by simpa using e))).trans f2; have x1' := (hG7.cell_far ⟨gx, k, none⟩ (World.block_lt_of_cell? wr.drew ⟨gx, k, none⟩ x1) (fun e => hxb (by simpa using e))).trans x1; have x2' := (hG7.cell_far ⟨gx, t, none⟩ (World.block_lt_of_cell? wr.drew ⟨gx, t, none⟩ x2) (fun e => hxb (by simpa using e))).trans x2)
                  all_goals
                    have hM8 := fun v => ((HM3.out.ext (Ext.refl wr).drew).drawn hbw hG7).set HAA.out.1 HAA.out.2.1 t v
                    have hG8 := fun v => grownBy_setNew (p := ⟨r, t, none⟩) (grownBy_trans (grownBy_drew HG3.out) hG7) HAA.out.2.2 v
                    have hS8 := fun v => hS7.past (c := r) (j := t) (by have := HAA.out.2.2; omega) v
                    have hX8 := fun v => ((HX3.out.ext (Ext.refl wr).drew).drawnB hb3 hG7).farD (g := r) (by omega) t v
                    have hR8 : Hid (∀ v, Rect (M3.set k ((row M3 k).set t v)) n n) := fun v => rect_set hR3.out hlt
                    go_wp2_with fail
                    go_meet
                    exact ⟨_, hS8 _, hG8 _, hX8 _, hM8 _, hR8.out _⟩
                case rest =>
                obtain ⟨M4, hS4, hG4, hX4, hM4, hR4⟩ := hcut
                clear c1 c2 f2 x1 x2 HM3 HS3 HG3 HX3 HAA HC
                go_wp2_with fail
                refine (l01Next_c b _ _ hS4 (by omega) (by omega)).mono ?_
                rintro e w5 ⟨y2, rfl, -, hS5, hG5⟩
                have hX5 := hX4.drawnB hb3 hG5
                have hM5 := hM4.drawn hbw hG5
                replace hG5 := grownBy_trans hG4 hG5
                clear hS4 hX4 hM4 hG4
                by_cases hy : y2 = 0
                · have hy2 : (y2 == 0) = true := by rw [hy]; rfl
                  have hkM4 : k < M4.length := by rw [hR4.out.1]; exact hlt
                  have hrk4 : (row M4 k).length = n := hR4.out.2 k hlt
                  have c1 := hM5.cell hkM4
                  obtain ⟨r2, hA2, hBr2, hrs2, hce, hfe⟩ := hM5.addr hkM4 (by rw [hrk4]; omega)
                  obtain ⟨r3, hA3, -, hrs3⟩ := HAB.out k hlt
                  rw [hA2] at hA3
                  simp only [Option.some.injEq, Addr.mk.injEq, and_true] at hA3
                  subst hA3
                  rw [hrk4, hA2] at c1
                  have c2 := hce t (by rw [hrk4]; exact hltn)
                  have f2 := hfe t
                  have hM8 := fun v => (hM5.ext (Ext.refl w5).drew).set hkM4 hA2 t v
                  have hG8 := fun v => grownBy_setNew (p := ⟨r2, t, none⟩) (grownBy_drew hG5) hBr2 v
                  have hS8 := fun v => hS5.drew.past (c := r2) (j := t) (by omega) v
                  have hX8 := fun v => (hX5.ext (Ext.refl w5).drew).farD (g := r2) hrs3 t v
                  have hR8 : Hid (∀ v, Rect (M4.set k ((row M4 k).set t v)) n n) := fun v => rect_set hR4.out hlt
                  have HAll := Lib.hid (And.intro hM8 (And.intro hG8 (And.intro hS8 hX8)))
                  clear hy hce hfe hM5 hM8 hG8 hS8 hX8 hS5 hG5 hX5 hA2 hrk4
                  generalize ent M4 k t = z4 at *
                  go_wp2_with fail
                  go_region
                  all_goals
                    go_wp2
                    go_roundw
                    case rel => exact ⟨t + 1, _, by omega, by go_num, HAll.out.2.2.1 _, HAll.out.2.1 _, HAll.out.2.2.2 _, HAll.out.1 _, hR8.out _⟩
                    case measure => simp [intOf]; omega
                · have hy2 : (y2 == 0) = false := by rw [beq_eq_false_iff_ne]; exact hy
                  clear hy
                  go_wp2
                  go_roundw
                  case rel => exact ⟨t + 1, M4, by omega, by go_num, hS5, hG5, hX5, hM5, hR4⟩
                  case measure => simp [intOf]; omega
              · cases hf : fin (ent M3 k t)
                · have HF := Lib.hid hf
                  clear hc hf
                  generalize ent M3 k t = z0 at *
                  go_wp2_with fail
                  refine (asB HF.out (l01Finite_c _ _)).mono ?_
                  rintro e w' ⟨rfl, rfl⟩
                  go_wp2
                  go_roundw
                  case rel => exact ⟨t + 1, M3, by omega, by go_num, hS3, hG3, hX3, hM3, hR3⟩
                  case measure => simp [intOf]; omega
                · have hi : inR (ent M3 k t) (-100) 100 = false := by
                    cases hi : inR (ent M3 k t) (-100) 100
                    · rfl
                    · exact absurd (by rw [hf, hi]; rfl) hc
                  have HF := Lib.hid hf
                  have HI := Lib.hid hi
                  clear hc hf hi
                  generalize ent M3 k t = z0 at *
                  go_wp2_with fail
                  refine (asB HF.out (l01Finite_c _ _)).mono ?_
                  rintro e w' ⟨rfl, rfl⟩
                  go_wp2_with fail
                  refine (asB HI.out (l01In_c _ _ _ _)).mono ?_
                  rintro e w' ⟨rfl, rfl⟩
                  go_wp2
                  go_roundw
                  case rel => exact ⟨t + 1, M3, by omega, by go_num, hS3, hG3, hX3, hM3, hR3⟩
                  case measure => simp [intOf]; omega
            · obtain rfl : n = t := by omega
              go_wp2
              go_roundw
              case rel => exact ⟨k + 1, M3, by omega, by go_num, hS3, hG3, hX3, hM3, hR3⟩
              case measure => simp [intOf]; omega
        · obtain rfl : n = k := by omega
          have hlM : M.length = n := hR.out.1
          have hrw : ∀ i, i < M.length → (row M i).length ≤ 100 := fun i hi => by rw [rect_rows hR.out hi]; omega
          have HRw := Lib.hid hrw
          clear hrw
          go_wp2
          go_ret
          refine ⟨some ⟨g, 0, none⟩, cap, M, ?_, .inr ⟨g, cap, A, C, rfl, hM2⟩, by omega, HRw.out, hS, hG⟩
          rw [hlM]; rfl
end Go.Proofs.Ytokhkpbebimohaa
