/- Contract of l03DrawNodes. Conditions: the source reads; the matrix lies behind it. -/
import Derived.Test.YtokhkpbebimohaaD13
import Derived.Test.YtokhkpbebimohaaD7
import Derived.Test.YtokhkpbebimohaaGF
namespace Go.Proofs.Ytokhkpbebimohaa
set_option linter.unusedVariables false
set_option linter.unusedSimpArgs false
open Go.RowKit

theorem mod_nat {t n : Nat} (hn : 0 < n) : ((t : Int) + 1) % (n : Int) = (((t + 1) % n : Nat) : Int) := by simp [Int.natCast_emod]
theorem Same.ext {B N : Nat} {w w1 w2 : World} (h : Same B N w w1) (hN : N ≤ w1.heap.size) (e : Ext w1 w2) : Same B N w w2 := fun k h1 h2 => (Below.block e k (Nat.lt_of_lt_of_le h2 hN)).trans (h k h1 h2)
set_option maxRecDepth 100000 in
set_option maxHeartbeats 4000000 in
theorem l03DrawNodes_c (b B : Nat) (a : Option Addr) (cap : Nat) (M : List (List Int)) (w : World) (h : Src w b) (hO : OwnM w B (.slice a M.length cap) M) (hbB : b < B) (hl : M.length ≤ 100) :
    Calls Try.prog 98 #[.pointer (some ⟨b, 0, none⟩), .slice a M.length cap] w (DrI b 101 w) := by
  have hbw := h.lt
  rw [show (DrI b 101 w) = fun e w' => ∃ a cap xs, e = .returned (.slice a (xs : List Int).length cap) ∧ OwnI w' w.heap.size (.slice a xs.length cap) xs ∧ xs.length ≤ 101 ∧ Src w' b ∧ w.grownBy w' (some b) from rfl]
  by_cases h0 : M.length = 0
  · have hOz := OwnI.lit1 w 0
    have hSz := h.alloc (.cells #[.int .i64 0] 2)
    have hGz := grownBy_ext (some b) ((Ext.refl w).alloc (.cells #[.int .i64 0] 2))
    rw [h0]
    clear h hO h0
    go_enter Try.func98, Try.ntmps98
    go_wp2
    go_ret
    exact ⟨_, 1, [0], rfl, hOz, by simp, hSz, hGz⟩
  have hn0 : (((M.length : Nat) : Int) == 0) = false := by rw [beq_eq_false_iff_ne]; omega
  have HO := Lib.hid hO
  go_enter Try.func98, Try.ntmps98
  go_wp2_with fail
  refine (l01Next_b b _ _ h (by omega) (by omega)).mono ?_
  rintro e w1 ⟨k1, rfl, -, hS1, hG1⟩
  have hM1 : Same B w.heap.size w w1 := Same.drawn (w1 := w) (fun k _ _ => rfl) hbB (Nat.le_refl _) hG1
  have hI2 := (OwnI.lit1 w1 (k1 : Int)).mono hG1.size
  have hS2 := hS1.alloc (.cells #[.int .i64 (k1 : Int)] 2)
  have hM2 := hM1.ext hG1.size ((Ext.refl w1).alloc (.cells #[.int .i64 (k1 : Int)] 2))
  have hG2 := grownBy_trans hG1 (grownBy_ext (some b) ((Ext.refl w1).alloc (.cells #[.int .i64 (k1 : Int)] 2)))
  clear h hO hS1 hG1 hM1
  go_wp2_with fail
  refine (l01Next_b b _ _ hS2 (by omega) (by omega)).mono ?_
  rintro e w3 ⟨k3, rfl, hk3, hS3, hG3⟩
  have hI3 := hI2.drawnB hbw hG3
  have hM3 := hM2.drawn hbB hG2.size hG3
  replace hG3 := grownBy_trans hG2 hG3
  have hN3 : Hid (∀ i, i < [(k1 : Int)].length → 0 ≤ nth [(k1 : Int)] i) := fun i hi => by
    obtain rfl : i = 0 := by simpa using hi
    exact Int.natCast_nonneg _
  clear hI2 hS2 hM2 hG2
  go_wp2
  go_loopw [6, 7] (fun s i wr => ∃ (z : Nat) (v : Option Addr) (c : Nat) (xs : List Int), i = .int .i64 (z : Int) ∧ s = .slice v xs.length c ∧ OwnI wr w.heap.size (.slice v xs.length c) xs ∧ 0 < xs.length ∧ xs.length + z ≤ 10 ∧ Hid (∀ i, i < xs.length → 0 ≤ nth xs i) ∧ Same B w.heap.size w wr ∧ Src wr b ∧ w.grownBy wr (some b)) (fun _ i _ => (intOf i).toNat)
  case atStart => exact ⟨k3, _, _, [(k1 : Int)], rfl, rfl, hI3, by simp, by simp; omega, hN3, hM3, hS3, hG3⟩
  case round =>
    obtain ⟨z, v, c, xs, rfl, rfl, hI, hx0, hxz, hN, hM, hS, hG⟩ := hrel
    clear hI3 hM3 hS3 hG3 hk3 hN3
    by_cases hz : 0 < z
    · go_wp2_with fail
      refine (l01Next_b b _ _ hS (by omega) (by omega)).mono ?_
      rintro e w5 ⟨k5, rfl, hk5, hS5, hG5⟩
      have hk5' : k5 < M.length := by omega
      have hI5 := hI.drawnB hbw hG5
      have hM5 := hM.drawn hbB hG.size hG5
      replace hG5 := grownBy_trans hG hG5
      clear hI hM hS hG hk5
      have hm := (HO.out.agree hM5).mat
      obtain ⟨p, o, ha, -⟩ := hm.at hk5'
      have hrow : ∀ t, t < M.length → ∃ ai ci, w5.cell? ⟨p, o + t, none⟩ = some (.slice ai (row M t).length ci) ∧ IntsAt w5 ai (row M t) := fun t ht => by
        obtain ⟨p', o', e', hc⟩ := hm.at ht
        rw [ha] at e'
        simp only [Option.some.injEq, Addr.mk.injEq, and_true] at e'
        obtain ⟨rfl, rfl⟩ := e'
        obtain ⟨ai, ci, h1, h2, -⟩ := hc t ht
        exact ⟨ai, ci, h1, h2⟩
      have HRow := Lib.hid hrow
      clear hm hrow
      obtain ⟨g, hg, hBg, hgs, hce, hfe⟩ := hI5.open hx0
      have cl := hce (xs.length - 1) (by omega)
      have hl0 := hN.out (xs.length - 1) (by omega)
      obtain ⟨l, hl1⟩ := Int.eq_ofNat_of_zero_le hl0
      rw [hl1] at cl
      have el : ((xs.length : Nat) : Int) - 1 = ((xs.length - 1 : Nat) : Int) := by omega
      have hxl : xs.length - 1 < xs.length := by omega
      have hll : xs.length ≤ 1000000000 := by omega
      have HI5 := Lib.hid hI5
      have HSG := Lib.hid (And.intro hM5 (And.intro hS5 hG5))
      clear hce hfe hl0 hl1 hI5 hM5 hS5 hG5
      subst hg
      subst ha
      go_wp2
      clear cl el
      go_loopw [8, 10] (fun nx i wr => ∃ (t j : Nat), nx = .int .i64 (t : Int) ∧ t < M.length ∧ i = .int .i64 (j : Int) ∧ j ≤ M.length ∧ wr = w5) (fun _ i _ => M.length - (intOf i).toNat)
      case atStart => exact ⟨k5, 0, rfl, hk5', rfl, Nat.zero_le _, rfl⟩
      case round =>
        obtain ⟨t, j, rfl, ht, rfl, hj, rfl⟩ := hrel
        obtain ⟨ai, ci, d1, d2⟩ := HRow.out t ht
        by_cases hcon : j < M.length ∧ l < (row M t).length ∧ nth (row M t) l = -1000000000000000
        · obtain ⟨h1, h2, h3⟩ := hcon
          obtain ⟨q, r, rfl, hc⟩ := d2.at h2
          have d3 := hc l h2
          rw [h3] at d3
          have hmd := mod_nat (t := t) (n := M.length) (by omega)
          have hmd2 : (t + 1) % M.length < M.length := Nat.mod_lt _ (by omega)
          clear hc d2 h3
          go_wp2
          go_roundw
          case rel => exact ⟨(t + 1) % M.length, j + 1, by rw [← hmd], hmd2, by go_num, by omega, by first | rfl | trivial⟩
          case measure => simp [intOf]; omega
        · have hI5 := HI5.out
          obtain ⟨hM5, hS5, hG5⟩ := HSG.out
          have hs : w.heap.size ≤ (wr.alloc (.cells #[.int .i64 (t : Int)] 2)).heap.size := by have := hG5.size; simp; omega
          have hAp := fun v' w7 (hI7 : OwnI w7 w.heap.size v' (xs ++ [(t : Int)])) (hg : (wr.alloc (.cells #[.int .i64 (t : Int)] 2)).grownBy w7 (some g)) =>
            (show Same B w.heap.size w w7 ∧ Src w7 b ∧ w.grownBy w7 (some b) from ⟨hM5.app hG5.size hI5 hg, (hS5.alloc (.cells #[.int .i64 (t : Int)] 2)).row hg (fun k hk => by have := hI5.base k hk; omega), grownBy_app hG5 hI5 (Nat.le_refl _) hg⟩)
          have HAp := Lib.hid hAp
          have hN2 : Hid (∀ i, i < (xs ++ [(t : Int)]).length → 0 ≤ nth (xs ++ [(t : Int)]) i) := fun i hi => by
            by_cases e : i < xs.length
            · rw [nth_app1 e]; exact hN.out i e
            · obtain rfl : i = xs.length := by simp at hi; omega
              rw [nth_app2]; exact Int.natCast_nonneg _
          have hl7 : (xs ++ [(t : Int)]).length = xs.length + 1 := by simp
          have hcase : (j = M.length) ∨ (j < M.length ∧ ¬ l < (row M t).length) ∨ (j < M.length ∧ l < (row M t).length ∧ nth (row M t) l ≠ -1000000000000000) := by
            rcases Nat.lt_or_ge j M.length with h1 | h1
            · rcases Nat.lt_or_ge l (row M t).length with h2 | h2
              · exact .inr (.inr ⟨h1, h2, fun e => hcon ⟨h1, h2, e⟩⟩)
              · exact .inr (.inl ⟨h1, by omega⟩)
            · exact .inl (by omega)
          clear hcon hM5 hS5 hG5 hAp
          rcases hcase with h1 | ⟨h1, h2⟩ | ⟨h1, h2, h3⟩
          case' inl => subst h1; clear d1 d2
          case' inr.inl => clear d2
          case' inr.inr =>
            obtain ⟨q, r, rfl, hc⟩ := d2.at h2
            have d3 := hc l h2
            have h3' : (nth (row M t) l == -1000000000000000) = false := by rw [beq_eq_false_iff_ne]; exact h3
            clear hc d2 h3
          all_goals
            go_wp2_with (at_builtin; refine app_i rfl _ _ rfl w.heap.size _ _ rfl (HI5.out.ext ((Ext.refl wr).alloc _)) ⟨wr.heap.size, 0, none⟩ 1 (t : Int) rfl (cell_one _ _ _) hll hs ?_)
            intro v' w7 hI7 hg
            obtain ⟨g1, g2, g3⟩ := HAp.out v' w7 hI7 hg
            obtain ⟨a4, c4, rfl, -⟩ := hI7.at
            rw [hl7] at hI7 ⊢
            have HI7 := Lib.hid hI7
            clear hI7 hg
            go_wp2
            go_roundw
            case rel => exact ⟨z - 1, a4, c4, xs ++ [(t : Int)], by go_num, by rw [hl7], by rw [hl7]; exact HI7.out, by rw [hl7]; omega, by rw [hl7]; omega, hN2, g1, g2, g3⟩
            case measure => simp [intOf]; omega
    · go_wp2_with fail
      refine (l01Next_b b _ _ hS (by omega) (by omega)).mono ?_
      rintro e w5 ⟨k5, rfl, -, hS5, hG5⟩
      have hI5 := hI.drawnB hbw hG5
      replace hG5 := grownBy_trans hG hG5
      clear hI hM hS hG hN
      by_cases hk0 : k5 = 0
      · subst hk0
        have hlen : ((M.length : Nat) : Int) ≤ 100 := by omega
        have hb2 : b ≠ w5.heap.size := by have := hS5.lt; omega
        have hO3 := OwnI.lit2v w5 w.heap.size (-1) (M.length : Nat) hG5.size
        have hS3 := hS5.alloc (.cells #[.int .i64 (-1), .int .i64 (M.length : Nat)] 2)
        have hI4 := hI5.ext ((Ext.refl w5).alloc (.cells #[.int .i64 (-1), .int .i64 (M.length : Nat)] 2))
        have hG3 := grownBy_trans hG5 (grownBy_ext (some b) ((Ext.refl w5).alloc (.cells #[.int .i64 (-1), .int .i64 (M.length : Nat)] 2)))
        clear hI5 hS5 hG5
        go_wp2_with fail
        refine (l01Pick_c b _ _ [-1, (M.length : Nat)] _ hS3 hO3.ints (by simp) (by simp) (fun o e => hb2 (by simp at e <;> exact e.1.symm))).mono ?_
        rintro e w6 ⟨y, rfl, -, hS6, hG6⟩
        have hI6 := hI4.drawnB hbw hG6
        replace hG6 := grownBy_trans hG3 hG6
        have hll : xs.length ≤ 1000000000 := by omega
        have hs : w.heap.size ≤ (w6.alloc (.cells #[.int .i64 y] 2)).heap.size := by have := hG6.size; simp; omega
        clear hI4 hO3 hG3 hS3
        go_wp2_with (at_builtin; refine app_i rfl _ _ rfl w.heap.size _ _ rfl (hI6.ext ((Ext.refl w6).alloc _)) ⟨w6.heap.size, 0, none⟩ 1 y rfl (cell_one _ _ _) hll hs ?_)
        intro v' w7 hI7 hg
        have hG7 := grownBy_app hG6 hI6 (Nat.le_refl _) hg
        have hS7 := (hS6.alloc (.cells #[.int .i64 y] 2)).row hg fun k hk => by have := hI6.base k hk; omega
        obtain ⟨a4, c4, rfl, -⟩ := hI7.at
        have hl4 : (xs ++ [y]).length ≤ 101 := by simp; omega
        go_wp2
        go_ret
        exact ⟨a4, c4, _, rfl, hI7, hl4, hS7, hG7⟩
      · have hk0' : (((k5 : Nat) : Int) == 0) = false := by rw [beq_eq_false_iff_ne]; omega
        by_cases hk1 : k5 = 1
        · subst hk1
          clear hk0
          go_wp2
          go_ret
          exact ⟨none, 0, [], rfl, OwnI.nil _ _, by simp, hS5, hG5⟩
        · have hk1' : (((k5 : Nat) : Int) == 1) = false := by rw [beq_eq_false_iff_ne]; omega
          clear hk0 hk1
          go_wp2
          go_ret
          exact ⟨v, c, xs, rfl, hI5, by omega, hS5, hG5⟩
end Go.Proofs.Ytokhkpbebimohaa
