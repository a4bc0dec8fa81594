/- Contracts of the draws of vectors. Conditions: the source reads; the sizes. -/
import Derived.Test.YtokhkpbebimohaaD4
import Derived.Test.YtokhkpbebimohaaGM
import Derived.Test.YtokhkpbebimohaaGO
namespace Go.Proofs.Ytokhkpbebimohaa
set_option linter.unusedVariables false
set_option linter.unusedSimpArgs false
open Go.RowKit

/-- a drawn list: new memory; the source goes on -/
def DrI (b N : Nat) (w : World) (e : Ending) (w' : World) : Prop :=
  ∃ a cap xs, e = .returned (.slice a (xs : List Int).length cap) ∧ OwnI w' w.heap.size (.slice a xs.length cap) xs ∧ xs.length ≤ N ∧ Src w' b ∧ w.grownBy w' (some b)
theorem OwnI.drawnB {w w' : World} {B b : Nat} {v : Value} {xs : List Int} (h : OwnI w B v xs) (hb : b < B) (g : w.grownBy w' (some b)) : OwnI w' B v xs :=
  h.agree fun k hk => g.block k (h.lt hk).2 fun e => by have := (h.lt hk).1; simp only [Option.some.injEq] at e; omega
theorem OwnM.drawnB {w w' : World} {B b : Nat} {v : Value} {m : List (List Int)} (h : OwnM w B v m) (hb : b < B) (g : w.grownBy w' (some b)) : OwnM w' B v m :=
  h.agree fun k h1 h2 => g.block k h2 fun e => by simp only [Option.some.injEq] at e; omega
/-- an append to a list behind the source, in the source's words -/
theorem grownBy_app {w0 wr w' : World} {b B : Nat} {v : Value} {xs : List Int} {o : Obj} (h : w0.grownBy wr (some b)) (hO : OwnI wr B v xs) (hB : w0.heap.size ≤ B) (hg : (wr.alloc o).grownBy w' v.ownBlock) : w0.grownBy w' (some b) := by
  refine ⟨hg.os.trans h.os, hg.tape.trans h.tape, hg.output.trans h.output, Nat.le_trans h.size (Nat.le_trans ((Ext.refl wr).alloc o).size hg.size), fun i hi hn => ?_⟩
  have h1 : i < wr.heap.size := Nat.lt_of_lt_of_le hi h.size
  have h2 : i < (wr.alloc o).heap.size := Nat.lt_of_lt_of_le h1 ((Ext.refl wr).alloc o).size
  rw [hg.block i h2 (fun e => by have := (hO.lt e.symm).1; omega), Below.block ((Ext.refl wr).alloc o) i h1]
  exact h.block i hi hn

set_option maxRecDepth 100000 in
set_option maxHeartbeats 2000000 in
theorem l02DrawVector_c (b : Nat) (n : Int) (w : World) (h : Src w b) (hn0 : 0 ≤ n) (hn : n ≤ 100) :
    Calls Try.prog 87 #[.pointer (some ⟨b, 0, none⟩), .int .i64 n] w (DrI b 101 w) := by
  have hbw := h.lt
  rw [show (DrI b 101 w) = fun e w' => ∃ a cap xs, e = .returned (.slice a (xs : List Int).length cap) ∧ OwnI w' w.heap.size (.slice a xs.length cap) xs ∧ xs.length ≤ 101 ∧ Src w' b ∧ w.grownBy w' (some b) from rfl]
  have hO0 := OwnI.empty w w.heap.size (Nat.le_refl _)
  have hS0 := h.alloc (.cells #[] 2)
  have hG0 := grownBy_ext (some b) ((Ext.refl w).alloc (.cells #[] 2))
  clear h
  go_enter Try.func87, Try.ntmps87
  go_wp2
  go_loopw [1, 5] (fun i s wr => ∃ (k : Int) (xs : List Int), 0 ≤ k ∧ k + (xs.length : Int) ≤ 100 ∧ i = .int .i64 k ∧ Src wr b ∧ w.grownBy wr (some b) ∧ OwnI wr w.heap.size s xs) (fun i _ _ => (intOf i).toNat)
  case atStart => exact ⟨n, [], hn0, by simp; omega, rfl, hS0, hG0, hO0⟩
  case round =>
    obtain ⟨k, xs, hk0, hkl, rfl, hS, hG, hO⟩ := hrel
    clear hO0 hS0 hG0
    by_cases hk : 0 < k
    · go_wp2_with fail
      refine (l01Next_c b _ _ hS (by omega) (by omega)).mono ?_
      rintro e w2 ⟨x, rfl, ⟨hx1, -, hx2⟩, hS2, hG2⟩
      have hx3 := hx2 (by omega)
      have hO2 := hO.drawnB hbw hG2
      replace hG := grownBy_trans hG hG2
      have hl : xs.length ≤ 1000000000 := by omega
      have hwx : IntKind.i64.wrap (x - 15) = x - 15 := IntWalk.i64_in _ (by omega)
      have hs : w.heap.size ≤ (w2.alloc (.cells #[.int .i64 (x - 15)] 2)).heap.size := by have := hG.size; simp; omega
      clear hS hO hG2 hx2
      go_wp2_with (at_builtin; refine app_i rfl _ _ rfl w.heap.size _ _ rfl (hO2.ext ((Ext.refl w2).alloc _)) ⟨w2.heap.size, 0, none⟩ 1 (x - 15) rfl (cell_one _ _ _) hl hs ?_)
      intro v' w4 hO4 hg
      have hG4 := grownBy_app hG hO2 (Nat.le_refl _) hg
      have hS4 := (hS2.alloc (.cells #[.int .i64 (x - 15)] 2)).row hg fun k hk => by have := hO2.base k hk; omega
      clear hO2 hS2 hG hg
      obtain ⟨a4, c4, rfl, -⟩ := hO4.at
      have hl4 : (xs ++ [x - 15]).length = xs.length + 1 := by simp
      rw [hl4] at hO4 ⊢
      go_wp2_with fail
      refine (l01Next_c b _ _ hS4 (by omega) (by omega)).mono ?_
      rintro e w5 ⟨z, rfl, -, hS5, hG5⟩
      have hO5 := hO4.drawnB hbw hG5
      replace hG5 := grownBy_trans hG4 hG5
      clear hS4 hO4 hG4
      by_cases hz : z = 0
      · have hz' : (z == 0) = true := by rw [hz]; rfl
        clear hz
        have hO5' : OwnI w5 w.heap.size (.slice a4 (xs ++ [x - 15]).length c4) (xs ++ [x - 15]) := by rw [hl4]; exact hO5
        obtain ⟨g, rfl, hBg, hgs, hce, hfe⟩ := hO5.open (by omega)
        have c1 := hce xs.length (by omega)
        have f1 := hfe xs.length
        have hset := hO5'.set xs.length (-1000000000000000)
        have hSp := fun v => hS5.past (c := g) (j := xs.length) (by omega) v
        have hGn := fun v => grownBy_new hG5 (k := g) (j := xs.length) hBg v
        have Hs := Lib.hid (And.intro hset (And.intro hSp hGn))
        have hls : ((xs ++ [x - 15]).set xs.length (-1000000000000000)).length = xs.length + 1 := by simp
        have HLs := Lib.hid hls
        have el : ((xs.length + 1 : Nat) : Int) - 1 = ((xs.length : Nat) : Int) := by omega
        clear hset hSp hGn hce hfe hS5 hG5 hO5' hO5 hls hl4
        go_wp2
        go_roundw
        case rel =>
          refine ⟨k - 1, (xs ++ [x - 15]).set xs.length (-1000000000000000), by omega, by rw [HLs.out]; omega, by go_num, Hs.out.2.1 _, Hs.out.2.2 _, ?_⟩
          have := Hs.out.1
          rw [show (xs ++ [x - 15]).length = xs.length + 1 by simp] at this
          exact this
        case measure => simp [intOf]; omega
      · have hz' : (z == 0) = false := by rw [beq_eq_false_iff_ne]; exact hz
        clear hz
        go_wp2
        go_roundw
        case rel => exact ⟨k - 1, xs ++ [x - 15], by omega, by simp; omega, by go_num, hS5, hG5, hO5⟩
        case measure => simp [intOf]; omega
    · go_wp2_with fail
      refine (l01Next_c b _ _ hS (by omega) (by omega)).mono ?_
      rintro e w2 ⟨x, rfl, -, hS2, hG2⟩
      have hO2 := hO.drawnB hbw hG2
      replace hG := grownBy_trans hG hG2
      clear hS hO hG2
      by_cases hx : x = 0
      · have hx' : (x == 0) = true := by rw [hx]; rfl
        clear hx
        go_wp2_with fail
        refine (l01DrawValue_c b _ hS2).mono ?_
        rintro e w3 ⟨y, rfl, -, hS3, hG3⟩
        have hO3 := hO2.drawnB hbw hG3
        replace hG := grownBy_trans hG hG3
        have hl : xs.length ≤ 1000000000 := by omega
        have hs : w.heap.size ≤ (w3.alloc (.cells #[.int .i64 y] 2)).heap.size := by have := hG.size; simp; omega
        clear hS2 hO2 hG3
        go_wp2_with (at_builtin; refine app_i rfl _ _ rfl w.heap.size _ _ rfl (hO3.ext ((Ext.refl w3).alloc _)) ⟨w3.heap.size, 0, none⟩ 1 y rfl (cell_one _ _ _) hl hs ?_)
        intro v' w4 hO4 hg
        have hG4 := grownBy_app hG hO3 (Nat.le_refl _) hg
        have hS4 := (hS3.alloc (.cells #[.int .i64 y] 2)).row hg fun k hk => by have := hO3.base k hk; omega
        obtain ⟨a4, c4, rfl, -⟩ := hO4.at
        have hl4 : (xs ++ [y]).length ≤ 101 := by simp; omega
        go_wp2
        go_ret
        exact ⟨a4, c4, _, rfl, hO4, hl4, hS4, hG4⟩
      · have hx' : (x == 0) = false := by rw [beq_eq_false_iff_ne]; exact hx
        clear hx
        by_cases hy : x = 1
        · have hy' : (x == 1) = true := by rw [hy]; rfl
          clear hy
          go_wp2
          go_ret
          exact ⟨none, 0, [], rfl, OwnI.nil _ _, by simp, hS2, hG⟩
        · have hy' : (x == 1) = false := by rw [beq_eq_false_iff_ne]; exact hy
          clear hy
          obtain ⟨a4, c4, rfl, -⟩ := hO2.at
          go_wp2
          go_ret
          exact ⟨a4, c4, xs, rfl, hO2, by omega, hS2, hG⟩
/-- a drawn matrix and a drawn list -/
def DrawnMI (w : World) (e : Ending) (w' : World) : Prop := ∃ a cap M v cv xs, e = .returned (.tuple #[.slice a (M : List (List Int)).length cap, .slice v (xs : List Int).length cv]) ∧ OwnM w' w.heap.size (.slice a M.length cap) M ∧ M.length ≤ 100 ∧ (∀ i, i < M.length → (row M i).length ≤ 100) ∧
  OwnI w' w.heap.size (.slice v xs.length cv) xs ∧ xs.length ≤ 101 ∧ Ext w w'
end Go.Proofs.Ytokhkpbebimohaa
