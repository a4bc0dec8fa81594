/- Contracts of further draws. Conditions: the code lies in memory. -/
import Derived.Test.YtokhkpbebimohaaD8
namespace Go.Proofs.Ytokhkpbebimohaa
set_option linter.unusedVariables false
set_option linter.unusedSimpArgs false
open Go.RowKit

set_option maxRecDepth 100000 in
set_option maxHeartbeats 2000000 in
theorem l02DrawVectorW_c (b : Nat) (n : Int) (w : World) (h : Src w b) (hn0 : 0 ≤ n) (hn : n ≤ 1000) :
    Calls Try.prog 87 #[.pointer (some ⟨b, 0, none⟩), .int .i64 n] w (DrI b 1001 w) := by
  have hbw := h.lt
  rw [show (DrI b 1001 w) = fun e w' => ∃ a cap xs, e = .returned (.slice a (xs : List Int).length cap) ∧ OwnI w' w.heap.size (.slice a xs.length cap) xs ∧ xs.length ≤ 1001 ∧ Src w' b ∧ w.grownBy w' (some b) from rfl]
  have hO0 := OwnI.empty w w.heap.size (Nat.le_refl _)
  have hS0 := h.alloc (.cells #[] 2)
  have hG0 := grownBy_ext (some b) ((Ext.refl w).alloc (.cells #[] 2))
  clear h
  go_enter Try.func87, Try.ntmps87
  go_wp2
  go_loopw [1, 5] (fun i s wr => ∃ (k : Int) (xs : List Int), 0 ≤ k ∧ k + (xs.length : Int) ≤ 1000 ∧ i = .int .i64 k ∧ Src wr b ∧ w.grownBy wr (some b) ∧ OwnI wr w.heap.size s xs) (fun i _ _ => (intOf i).toNat)
  case atStart => exact ⟨n, [], hn0, by simp; omega, rfl, hS0, hG0, hO0⟩
  case round =>
    obtain ⟨k, xs, hk0, hkl, rfl, hS, hG, hO⟩ := hrel
    clear hO0 hS0 hG0
    by_cases hk : 0 < k
    · go_wp2_with fail
      refine (l01Next_c b _ _ hS (by omega) (by omega)).mono ?_
      rintro e w2 ⟨x, rfl, ⟨hx1, -, hx2⟩, hS2, hG2⟩
      have hx3 := hx2 (by omega)
      have hO2 := hO.drawnB hbw hG2
      replace hG := grownBy_trans hG hG2
      have hl : xs.length ≤ 1000000000 := by omega
      have hwx : IntKind.i64.wrap (x - 15) = x - 15 := IntWalk.i64_in _ (by omega)
      have hs : w.heap.size ≤ (w2.alloc (.cells #[.int .i64 (x - 15)] 2)).heap.size := by have := hG.size; simp; omega
      clear hS hO hG2 hx2
      go_wp2_with (at_builtin; refine app_i rfl _ _ rfl w.heap.size _ _ rfl (hO2.ext ((Ext.refl w2).alloc _)) ⟨w2.heap.size, 0, none⟩ 1 (x - 15) rfl (cell_one _ _ _) hl hs ?_)
      intro v' w4 hO4 hg
      have hG4 := grownBy_app hG hO2 (Nat.le_refl _) hg
      have hS4 := (hS2.alloc (.cells #[.int .i64 (x - 15)] 2)).row hg fun k hk => by have := hO2.base k hk; omega
      clear hO2 hS2 hG hg
      obtain ⟨a4, c4, rfl, -⟩ := hO4.at
      have hl4 : (xs ++ [x - 15]).length = xs.length + 1 := by simp
      rw [hl4] at hO4 ⊢
      go_wp2_with fail
      refine (l01Next_c b _ _ hS4 (by omega) (by omega)).mono ?_
      rintro e w5 ⟨z, rfl, -, hS5, hG5⟩
      have hO5 := hO4.drawnB hbw hG5
      replace hG5 := grownBy_trans hG4 hG5
      clear hS4 hO4 hG4
      by_cases hz : z = 0
      · have hz' : (z == 0) = true := by rw [hz]; rfl
        clear hz
        have hO5' : OwnI w5 w.heap.size (.slice a4 (xs ++ [x - 15]).length c4) (xs ++ [x - 15]) := by rw [hl4]; exact hO5
        obtain ⟨g, rfl, hBg, hgs, hce, hfe⟩ := hO5.open (by omega)
        have c1 := hce xs.length (by omega)
        have f1 := hfe xs.length
        have hset := hO5'.set xs.length (-1000000000000000)
        have hSp := fun v => hS5.past (c := g) (j := xs.length) (by omega) v
        have hGn := fun v => grownBy_new hG5 (k := g) (j := xs.length) hBg v
        have Hs := Lib.hid (And.intro hset (And.intro hSp hGn))
        have hls : ((xs ++ [x - 15]).set xs.length (-1000000000000000)).length = xs.length + 1 := by simp
        have HLs := Lib.hid hls
        have el : ((xs.length + 1 : Nat) : Int) - 1 = ((xs.length : Nat) : Int) := by omega
        clear hset hSp hGn hce hfe hS5 hG5 hO5' hO5 hls hl4
        go_wp2
        go_roundw
        case rel =>
          refine ⟨k - 1, (xs ++ [x - 15]).set xs.length (-1000000000000000), by omega, by rw [HLs.out]; omega, by go_num, Hs.out.2.1 _, Hs.out.2.2 _, ?_⟩
          have := Hs.out.1
          rw [show (xs ++ [x - 15]).length = xs.length + 1 by simp] at this
          exact this
        case measure => simp [intOf]; omega
      · have hz' : (z == 0) = false := by rw [beq_eq_false_iff_ne]; exact hz
        clear hz
        go_wp2
        go_roundw
        case rel => exact ⟨k - 1, xs ++ [x - 15], by omega, by simp; omega, by go_num, hS5, hG5, hO5⟩
        case measure => simp [intOf]; omega
    · go_wp2_with fail
      refine (l01Next_c b _ _ hS (by omega) (by omega)).mono ?_
      rintro e w2 ⟨x, rfl, -, hS2, hG2⟩
      have hO2 := hO.drawnB hbw hG2
      replace hG := grownBy_trans hG hG2
      clear hS hO hG2
      by_cases hx : x = 0
      · have hx' : (x == 0) = true := by rw [hx]; rfl
        clear hx
        go_wp2_with fail
        refine (l01DrawValue_c b _ hS2).mono ?_
        rintro e w3 ⟨y, rfl, -, hS3, hG3⟩
        have hO3 := hO2.drawnB hbw hG3
        replace hG := grownBy_trans hG hG3
        have hl : xs.length ≤ 1000000000 := by omega
        have hs : w.heap.size ≤ (w3.alloc (.cells #[.int .i64 y] 2)).heap.size := by have := hG.size; simp; omega
        clear hS2 hO2 hG3
        go_wp2_with (at_builtin; refine app_i rfl _ _ rfl w.heap.size _ _ rfl (hO3.ext ((Ext.refl w3).alloc _)) ⟨w3.heap.size, 0, none⟩ 1 y rfl (cell_one _ _ _) hl hs ?_)
        intro v' w4 hO4 hg
        have hG4 := grownBy_app hG hO3 (Nat.le_refl _) hg
        have hS4 := (hS3.alloc (.cells #[.int .i64 y] 2)).row hg fun k hk => by have := hO3.base k hk; omega
        obtain ⟨a4, c4, rfl, -⟩ := hO4.at
        have hl4 : (xs ++ [y]).length ≤ 1001 := by simp; omega
        go_wp2
        go_ret
        exact ⟨a4, c4, _, rfl, hO4, hl4, hS4, hG4⟩
      · have hx' : (x == 0) = false := by rw [beq_eq_false_iff_ne]; exact hx
        clear hx
        by_cases hy : x = 1
        · have hy' : (x == 1) = true := by rw [hy]; rfl
          clear hy
          go_wp2
          go_ret
          exact ⟨none, 0, [], rfl, OwnI.nil _ _, by simp, hS2, hG⟩
        · have hy' : (x == 1) = false := by rw [beq_eq_false_iff_ne]; exact hy
          clear hy
          obtain ⟨a4, c4, rfl, -⟩ := hO2.at
          go_wp2
          go_ret
          exact ⟨a4, c4, xs, rfl, hO2, by omega, hS2, hG⟩
/-- a drawn matrix and a drawn list, however long -/
def DrawnMW (w : World) (e : Ending) (w' : World) : Prop := ∃ a cap M v cv xs, e = .returned (.tuple #[.slice a (M : List (List Int)).length cap, .slice v (xs : List Int).length cv]) ∧ OwnM w' w.heap.size (.slice a M.length cap) M ∧ M.length ≤ 100 ∧ (∀ i, i < M.length → (row M i).length ≤ 100) ∧
  OwnI w' w.heap.size (.slice v xs.length cv) xs ∧ xs.length ≤ 1001 ∧ Ext w w'
set_option maxHeartbeats 1000000 in
theorem DrawFixedPoint_c (ca : Option Addr) (cc : Nat) (bs : List Int) (w : World) (h : CodeAt w ca bs) :
    Calls Try.prog 30 #[.slice ca bs.length cc] w (DrawnMW w) := by
  rw [show (DrawnMW w) = fun e w' => ∃ a cap M v cv xs, e = .returned (.tuple #[.slice a (M : List (List Int)).length cap, .slice v (xs : List Int).length cv]) ∧ OwnM w' w.heap.size (.slice a M.length cap) M ∧ M.length ≤ 100 ∧ (∀ i, i < M.length → (row M i).length ≤ 100) ∧
    OwnI w' w.heap.size (.slice v xs.length cv) xs ∧ xs.length ≤ 1001 ∧ Ext w w' from rfl]
  go_enter Try.func30, Try.ntmps30
  go_wp2_with fail
  refine (l01From_c _ _ _ _ h h.new).mono ?_
  rintro e w1 ⟨b, rfl, hE1, hb, hS1⟩
  have hbl := hS1.lt
  go_wp2_with fail
  refine (l03Draw_c b _ hS1).mono ?_
  rintro e w2 ⟨a, cap, M, rfl, hO2, hl, hr, hS2, hG2⟩
  have HR := Lib.hid hr
  clear hr
  have hn : 0 ≤ ((M.length : Nat) : Int) ∧ ((M.length : Nat) : Int) ≤ 98 ∨ 98 < ((M.length : Nat) : Int) := by omega
  go_wp2_with fail
  refine (l01Next_c b _ _ hS2 (by omega) (by omega)).mono ?_
  rintro e w3 ⟨z, rfl, -, hS3, hG3⟩
  have hO3 := hO2.drawnB hbl hG3
  have hG := grownBy_trans hG2 hG3
  clear hO2 hS2 hG2 hG3 hn
  by_cases hz : z = 0
  · have hz' : (z == 0) = true := by rw [hz]; rfl
    have hwn : IntKind.i64.wrap (((M.length : Nat) : Int) + 1) = ((M.length : Nat) : Int) + 1 := IntWalk.i64_in _ (by omega)
    clear hz
    go_wp2_with fail
    refine (l02DrawVectorW_c b _ _ hS3 (by omega) (by omega)).mono ?_
    rintro e w5 ⟨v, cv, xs, rfl, hO5, hl5, hS5, hG5⟩
    have hO6 := hO3.drawnB hbl hG5
    have hsz : w.heap.size ≤ w3.heap.size := Nat.le_trans hE1.size hG.size
    have hE5 := hE1.src hb (grownBy_trans hG hG5)
    go_wp2
    go_ret2
    exact ⟨a, cap, M, v, cv, xs, rfl, hO6.mono hE1.size, hl, HR.out, hO5.mono hsz, hl5, hE5⟩
  · have hz' : (z == 0) = false := by rw [beq_eq_false_iff_ne]; exact hz
    clear hz
    go_wp2_with fail
    refine (l02DrawVectorW_c b _ _ hS3 (by omega) (by omega)).mono ?_
    rintro e w5 ⟨v, cv, xs, rfl, hO5, hl5, hS5, hG5⟩
    have hO6 := hO3.drawnB hbl hG5
    have hsz : w.heap.size ≤ w3.heap.size := Nat.le_trans hE1.size hG.size
    have hE5 := hE1.src hb (grownBy_trans hG hG5)
    go_wp2
    go_ret2
    exact ⟨a, cap, M, v, cv, xs, rfl, hO6.mono hE1.size, hl, HR.out, hO5.mono hsz, hl5, hE5⟩
end Go.Proofs.Ytokhkpbebimohaa
