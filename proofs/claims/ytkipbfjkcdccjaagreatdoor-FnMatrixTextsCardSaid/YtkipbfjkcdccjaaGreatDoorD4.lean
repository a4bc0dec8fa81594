/- Contracts of the draws of matrices, and of the laws' comparisons. Conditions: the code reads; the sizes. -/
import Derived.Test.YtkipbfjkcdccjaaGreatDoorD3
import Derived.Test.YtkipbfjkcdccjaaGreatDoorGN
import Derived.Test.YtkipbfjkcdccjaaGreatDoorGN
import Derived.Deep.RegionWith
namespace Go.Proofs.YtkipbfjkcdccjaaGreatDoor
set_option linter.unusedVariables false
set_option linter.unusedSimpArgs false
open Go.RowKit

set_option maxHeartbeats 400000 in
theorem likeInts_c (a b : Option Addr) (ca cb : Nat) (xs ys : List Int) (w : World) (ha : IntsAt w a xs) (hb : IntsAt w b ys) :
    Calls Tryz.prog 24 #[.slice a xs.length ca, .slice b ys.length cb] w fun e w' => e = .returned (.bool (decide (xs = ys))) ∧ Qt w w' := by
  have hla := ha.len
  have hlb := hb.len
  go_enter Tryz.func24, Tryz.ntmps24
  go_wp2
  · have hl := ne_len (by assumption)
    go_ret
    exact ⟨ret_bool (by rw [decide_eq_false (fun h => hl (by rw [h]))]), Qt.refl _⟩
  · have hl : Hid (xs.length = ys.length) := eq_len (by assumption)
    go_loopw [5] (fun i wr => ∃ k : Nat, k ≤ xs.length ∧ i = .int .i64 k ∧ Qt w wr ∧ Hid (∀ j, j < k → nth xs j = nth ys j)) (fun i _ => xs.length - (intOf i).toNat)
    case atStart => exact ⟨0, Nat.zero_le _, rfl, Qt.refl _, fun j hj => absurd hj (Nat.not_lt_zero _)⟩
    case round =>
      obtain ⟨k, hk, rfl, hq, hj⟩ := hrel
      by_cases hlt : k < xs.length
      · obtain ⟨b1, o1, rfl, hc1⟩ := (ha.qt hq).at hlt
        have hlt2 : k < ys.length := by have := hl.out; omega
        obtain ⟨b2, o2, rfl, hc2⟩ := (hb.qt hq).at hlt2
        have d1 := hc1 k hlt
        have d2 := hc2 k hlt2
        clear hc1 hc2
        go_wp2_with fail
        go_big_quiet (fail)
        go_wp2
        · have hne : (nth xs k != nth ys k) = true := by assumption
          go_ret
          exact ⟨ret_bool (by rw [decide_eq_false (fun h => by rw [h] at hne; simp at hne)]), hq.drewN _⟩
        · have he : (nth xs k != nth ys k) = false := by assumption
          have he' := bne_eq_false_iff_eq.1 he
          have He := Lib.hid he'
          clear he'
          go_roundw
          case rel => exact ⟨k + 1, by omega, by go_num, hq.drewN _, fun j h => by
            by_cases e : j = k
            · subst e; exact He.out
            · exact hj.out j (by omega)⟩
          case measure => simp [intOf]; omega
      · go_wp2
        go_ret
        exact ⟨ret_bool (by rw [decide_eq_true (list_ext_nth hl.out (fun i hi => hj.out i (by omega)))]), hq⟩

theorem likeTables_c (a b : Option Addr) (ca cb : Nat) (xs ys : List (List Int)) (w : World) (ha : MatAt w a xs) (hb : MatAt w b ys) :
    Calls Tryz.prog 11 #[.slice a xs.length ca, .slice b ys.length cb] w fun e w' => e = .returned (.bool (decide (xs = ys))) ∧ Qt w w' := by
  have hla := ha.len
  have hlb := hb.len
  go_enter Tryz.func11, Tryz.ntmps11
  go_wp2
  · have hl := ne_len (by assumption)
    go_ret
    exact ⟨ret_bool (by rw [decide_eq_false (fun h => hl (by rw [h]))]), Qt.refl _⟩
  · have hl : Hid (xs.length = ys.length) := eq_len (by assumption)
    go_loopw [5] (fun i wr => ∃ k : Nat, k ≤ xs.length ∧ i = .int .i64 k ∧ Qt w wr ∧ Hid (∀ j, j < k → row xs j = row ys j)) (fun i _ => xs.length - (intOf i).toNat)
    case atStart => exact ⟨0, Nat.zero_le _, rfl, Qt.refl _, fun j hj => absurd hj (Nat.not_lt_zero _)⟩
    case round =>
      obtain ⟨k, hk, rfl, hq, hj⟩ := hrel
      by_cases hlt : k < xs.length
      · obtain ⟨b1, o1, rfl, hc1⟩ := (ha.qt hq).at hlt
        have hlt2 : k < ys.length := by have := hl.out; omega
        obtain ⟨b2, o2, rfl, hc2⟩ := (hb.qt hq).at hlt2
        obtain ⟨a1, i1, d1, g1, _⟩ := hc1 k hlt
        obtain ⟨a2, i2, d2, g2, _⟩ := hc2 k hlt2
        clear hc1 hc2
        by_cases he : row xs k = row ys k
        · have He := Lib.hid he
          clear he
          go_wp2_with fail
          go_big_quiet ((go_at_call 24; exact quiet_call (asB (decide_eq_true He.out) (likeInts_c _ _ _ _ _ _ _ (g1.qt ⟨_, rfl⟩) (g2.qt ⟨_, rfl⟩)))))
          go_wp2
          go_roundw
          case rel => exact ⟨k + 1, by omega, by go_num, hq.drewN _, fun j h => by
            by_cases e : j = k
            · subst e; exact He.out
            · exact hj.out j (by omega)⟩
          case measure => simp [intOf]; omega
        · have He := Lib.hid he
          clear he
          go_wp2_with fail
          go_big_quiet ((go_at_call 24; exact quiet_call (asB (decide_eq_false He.out) (likeInts_c _ _ _ _ _ _ _ (g1.qt ⟨_, rfl⟩) (g2.qt ⟨_, rfl⟩)))))
          go_wp2
          go_ret
          exact ⟨ret_bool (by rw [decide_eq_false (fun h => He.out (by rw [h]))]), hq.drewN _⟩
      · go_wp2
        go_ret
        exact ⟨ret_bool (by rw [decide_eq_true (list_ext_row hl.out (fun i hi => hj.out i (by omega)))]), hq⟩

/-- a drawn matrix: new memory; the source goes on -/
def DrM (b : Nat) (w : World) (e : Ending) (w' : World) : Prop :=
  ∃ a cap M, e = .returned (.slice a (M : List (List Int)).length cap) ∧ OwnM w' w.heap.size (.slice a M.length cap) M ∧ M.length ≤ 100 ∧ (∀ i, i < M.length → (row M i).length ≤ 100) ∧ Src w' b ∧ w.grownBy w' (some b)
theorem Mat.drawn {w w' : World} {B b g cap : Nat} {A : Nat → Option Addr} {C : Nat → Nat} {m : List (List Int)} (h : Mat w B g cap A C m) (hb : b < B) (k : w.grownBy w' (some b)) : Mat w' B g cap A C m :=
  h.agree fun i h1 h2 => k.block i h2 fun e => by simp only [Option.some.injEq] at e; omega
theorem grownBy_setNew {a c : World} {r : Option Nat} (h : a.grownBy c r) {p : Addr} (hk : a.heap.size ≤ p.block) (v : Value) : a.grownBy (c.setCell p v) r :=
  ⟨h.os, h.tape, h.output, by simpa using h.size, fun i hi hn => (Below.heap_setCell _ _ _ _ (by omega)).trans (h.block i hi hn)⟩
theorem grownBy_drew {a c : World} {r : Option Nat} (h : a.grownBy c r) : a.grownBy c.drew r := grownBy_qt h ⟨1, rfl⟩
theorem rect_rows {m n : Nat} {M : List (List Int)} (h : Rect M m n) {i : Nat} (hi : i < M.length) : (row M i).length = n := h.2 i (by rw [← h.1]; exact hi)
theorem Src.drew {w : World} {b : Nat} (h : Src w b) : Src w.drew b := h.ext (Ext.refl w).drew
theorem cell_drew {w : World} {a : Addr} {v : Value} (h : w.cell? a = some v) : w.drew.cell? a = some v := h

set_option maxRecDepth 100000 in
set_option maxHeartbeats 4000000 in
theorem l02DrawSize_c (b m n : Nat) (w : World) (h : Src w b) (hm0 : 1 ≤ m) (hn0 : 1 ≤ n) (hm : m ≤ 90) (hn : n ≤ 90) :
    Calls Tryz.prog 25 #[.pointer (some ⟨b, 0, none⟩), .int .i64 (m : Int), .int .i64 (n : Int)] w (DrM b w) := by
  have hbw := h.lt
  rw [show (DrM b w) = fun e w' => ∃ a cap M, e = .returned (.slice a (M : List (List Int)).length cap) ∧ OwnM w' w.heap.size (.slice a M.length cap) M ∧ M.length ≤ 100 ∧ (∀ i, i < M.length → (row M i).length ≤ 100) ∧ Src w' b ∧ w.grownBy w' (some b) from rfl]
  go_enter Tryz.func25, Tryz.ntmps25
  go_wp2_with fail
  refine (l02Bottom_c m n _ (by omega) (by omega)).mono ?_
  rintro e w1 ⟨a1, cap, rfl, hO, hE1⟩
  obtain ⟨g, A, C, rfl, hM⟩ := hO.open (by rw [mkMat_len]; omega)
  rw [mkMat_len]
  have hS1 := h.ext hE1
  have hG1 := grownBy_ext (some b) hE1
  clear hO h
  go_wp2_with fail
  refine (l01Pick_c b _ _ [2, 3, 5] _ (hS1.alloc _) (ints_lit w1 [2, 3, 5] (by decide)) (by decide) (by decide) (new_ne hS1)).mono ?_
  rintro e w2 ⟨many, rfl, hmany, hS2, hG2⟩
  have hmy : 2 ≤ many ∧ many ≤ 5 := by
    obtain ⟨i, hi, rfl⟩ := hmany
    have : i = 0 ∨ i = 1 ∨ i = 2 := by simp at hi; omega
    rcases this with rfl | rfl | rfl <;> exact ⟨by decide, by decide⟩
  have hM2 := (hM.ext ((Ext.refl w1).alloc (.cells #[.int .i64 2, .int .i64 3, .int .i64 5] 2))).drawn hbw hG2
  have hG := grownBy_trans hG1 (grownBy_trans (grownBy_ext (some b) ((Ext.refl w1).alloc (.cells #[.int .i64 2, .int .i64 3, .int .i64 5] 2))) hG2)
  clear hmany hM hS1 hG1 hG2 hE1
  go_wp2
  go_loopw [9] (fun i wr => ∃ (k : Nat) (M : List (List Int)), k ≤ m ∧ i = .int .i64 k ∧ Src wr b ∧ w.grownBy wr (some b) ∧ Mat wr w.heap.size g cap A C M ∧ Hid (Rect M m n)) (fun i _ => m - (intOf i).toNat)
  case atStart => exact ⟨0, _, Nat.zero_le _, rfl, hS2, hG, hM2, rect_mk _ _ _⟩
  case round =>
    obtain ⟨k, M, hk, rfl, hS, hG3, hM3, hR⟩ := hrel
    clear hS2 hG hM2
    by_cases hlt : k < m
    · go_wp2
      go_loopw [10] (fun i wr => ∃ (t : Nat) (M : List (List Int)), t ≤ n ∧ i = .int .i64 t ∧ Src wr b ∧ w.grownBy wr (some b) ∧ Mat wr w.heap.size g cap A C M ∧ Hid (Rect M m n)) (fun i _ => n - (intOf i).toNat)
      case atStart => exact ⟨0, M, Nat.zero_le _, rfl, hS, hG3, hM3, hR⟩
      case round =>
        obtain ⟨t, M3, ht, rfl, hS4, hG4, hM4, hR4⟩ := hrel
        clear hS hG3 hM3
        by_cases hltn : t < n
        · go_wp2_with fail
          refine (l01Next_c b _ _ hS4 (by omega) (by omega)).mono ?_
          rintro e w5 ⟨y, rfl, -, hS5, hG5⟩
          have hM5 := hM4.drawn hbw hG5
          have hG6 := grownBy_trans hG4 hG5
          clear hS4 hG4 hM4 hG5
          by_cases hy : 0 < y
          · have hkM : k < M3.length := by rw [hR4.out.1]; exact hlt
            have hrk : (row M3 k).length = n := hR4.out.2 k hlt
            have c1 := hM5.cell hkM
            obtain ⟨r, hA, hBr, hrs, hce, hfe⟩ := hM5.addr hkM (by rw [hrk]; omega)
            rw [hrk, hA] at c1
            have c2 := hce t (by rw [hrk]; exact hltn)
            have f2 := hfe t
            have hgb : g ≠ b := by have := hM5.hB; omega
            have hrb : r ≠ b := by omega
            have HM5 := Lib.hid hM5
            have HR5 := Lib.hid (rect_set (j := t) (x := 0) hR4.out hlt)
            have HAA := Lib.hid (And.intro hkM (And.intro hA hBr))
            have HS5 := Lib.hid hS5
            have HG6 := Lib.hid hG6
            clear hce hfe hrk hA hM5 hS5 hG6
            go_wp2_with fail
            go_region_with (go_at_call 18; refine (l01Next_c b _ _ HS5.out.drew (by omega) (by omega)).mono ?_; rintro e w7 ⟨z, rfl, ⟨hz1, -, hz2⟩, hS7, hG7⟩; have hz3 := hz2 (by omega); have c1' := (hG7.cell_far ⟨g, k, none⟩ (World.block_lt_of_cell? w5.drew ⟨g, k, none⟩ c1) (fun e => hgb (by simpa using e))).trans c1; have c2' := (hG7.cell_far ⟨r, t, none⟩ (World.block_lt_of_cell? w5.drew ⟨r, t, none⟩ c2) (fun e => hrb (by simpa using e))).trans c2; have f2' := (hG7.frozen_far ⟨r, t, none⟩ (World.block_lt_of_cell? w5.drew ⟨r, t, none⟩ c2) (fun e => hrb (by simpa using e))).trans f2)
            all_goals
              have hM8 := ((HM5.out.ext (Ext.refl w5).drew).drawn hbw hG7).set HAA.out.1 HAA.out.2.1 t (z - 10)
              have hG8 := grownBy_setNew (p := ⟨r, t, none⟩) (grownBy_trans (grownBy_drew HG6.out) hG7) HAA.out.2.2 (.int .i64 (z - 10))
              have hS8 := hS7.past (c := r) (j := t) (by have := HAA.out.2.2; omega) (.int .i64 (z - 10))
              have hR8 : Hid (Rect (M3.set k ((row M3 k).set t (z - 10))) m n) := rect_set hR4.out hlt
              go_wp2
              go_roundw
              case rel => exact ⟨t + 1, _, by omega, by go_num, hS8, hG8, hM8, hR8⟩
              case measure => simp [intOf]; omega
          · go_wp2
            go_roundw
            case rel => exact ⟨t + 1, M3, by omega, by go_num, hS5, hG6, hM5, hR4⟩
            case measure => simp [intOf]; omega
        · obtain rfl : n = t := by omega
          go_wp2
          go_roundw
          case rel => exact ⟨k + 1, M3, by omega, by go_num, hS4, hG4, hM4, hR4⟩
          case measure => simp [intOf]; omega
    · obtain rfl : m = k := by omega
      go_wp2_with fail
      refine (l01Next_c b _ _ hS (by omega) (by omega)).mono ?_
      rintro e w5 ⟨y, rfl, -, hS5, hG5⟩
      have hM5 := hM3.drawn hbw hG5
      have hG6 := grownBy_trans hG3 hG5
      clear hS hG3 hM3 hG5
      have hrows : ∀ M' : List (List Int), Rect M' m n → M'.length ≤ 100 ∧ ∀ i, i < M'.length → (row M' i).length ≤ 100 := fun M' hr => ⟨by rw [hr.1]; omega, fun i hi => by rw [rect_rows hr hi]; omega⟩
      have HRows := Lib.hid hrows
      clear hrows
      by_cases hy0 : y = 0
      · subst hy0
        have hkM : 0 < M.length := by rw [hR.out.1]; omega
        have hrk : (row M 0).length = n := hR.out.2 0 (by omega)
        have c1 := hM5.cell hkM
        obtain ⟨r, hA, hBr, hrs, hce, hfe⟩ := hM5.addr hkM (by rw [hrk]; omega)
        rw [hrk, hA] at c1
        have c2 := hce 0 (by rw [hrk]; omega)
        have f2 := hfe 0
        have hgb : g ≠ b := by have := hM5.hB; omega
        have hrb : r ≠ b := by omega
        have hzm : (0 : Int) < (m : Int) := by omega
        have hzn : (0 : Int) < (n : Int) := by omega
        have HM5 := Lib.hid hM5
        have HAA := Lib.hid (And.intro hkM (And.intro hA hBr))
        have HS5 := Lib.hid hS5
        have HG6 := Lib.hid hG6
        clear hce hfe hrk hA hM5 hS5 hG6
        go_wp2_with fail
        go_region_with (go_at_call 39; refine (l01DrawValue_c b _ HS5.out.drew).mono ?_; rintro e w7 ⟨z, rfl, -, hS7, hG7⟩; have c1' := (hG7.cell_far ⟨g, 0, none⟩ (World.block_lt_of_cell? w5.drew ⟨g, 0, none⟩ c1) (fun e => hgb (by simpa using e))).trans c1; have c2' := (hG7.cell_far ⟨r, 0, none⟩ (World.block_lt_of_cell? w5.drew ⟨r, 0, none⟩ c2) (fun e => hrb (by simpa using e))).trans c2; have f2' := (hG7.frozen_far ⟨r, 0, none⟩ (World.block_lt_of_cell? w5.drew ⟨r, 0, none⟩ c2) (fun e => hrb (by simpa using e))).trans f2)
        all_goals
          have hM8 := ((HM5.out.ext (Ext.refl w5).drew).drawn hbw hG7).set HAA.out.1 HAA.out.2.1 0 z
          have hG8 := grownBy_setNew (p := ⟨r, 0, none⟩) (grownBy_trans (grownBy_drew HG6.out) hG7) HAA.out.2.2 (.int .i64 z)
          have hS8 := hS7.past (c := r) (j := 0) (by have := HAA.out.2.2; omega) (.int .i64 z)
          have hR8 : Rect (M.set 0 ((row M 0).set 0 z)) m n := rect_set hR.out (by omega)
          have hR9 := HRows.out _ hR8
          have hl8 : (M.set 0 ((row M 0).set 0 z)).length = m := hR8.1
          go_wp2
          go_ret
          refine ⟨some ⟨g, 0, none⟩, cap, _, ?_, .inr ⟨g, cap, A, C, rfl, hM8⟩, hR9.1, hR9.2, hS8, hG8⟩
          rw [hl8]; rfl
      · have hy0' : (y == 0) = false := by rw [beq_eq_false_iff_ne]; exact hy0
        have hlM : M.length = m := hR.out.1
        by_cases hy1 : y = 1
        · subst hy1
          have hOM : OwnM w5 w.heap.size (.slice (some ⟨g, 0, none⟩) M.length cap) M := .inr ⟨g, cap, A, C, rfl, hM5⟩
          have hsz := hG6.size
          have hE7 := (Ext.refl w5).alloc (.cells #[] 2)
          have hr7 := OwnI.empty w5 w5.heap.size (Nat.le_refl _)
          have hE8 := hE7.alloc (.cells #[.slice (some ⟨w5.heap.size, 0, none⟩) 0 0] 37)
          have hr8 := hr7.ext ((Ext.refl _).alloc (.cells #[.slice (some ⟨w5.heap.size, 0, none⟩) 0 0] 37))
          have hR9 := HRows.out _ hR.out
          rw [hlM] at hOM
          have hlM2 : M.length ≤ 1000000000 := by omega
          have hc9 : ((w5.alloc (.cells #[] 2)).alloc (.cells #[.slice (some ⟨w5.heap.size, 0, none⟩) 0 0] 37)).cell? ⟨w5.heap.size + 1, 0, none⟩ = some (.slice (some ⟨w5.heap.size, 0, none⟩) ([] : List Int).length 0) := by
            simp
          clear hM5 hy0
          go_wp2_with (at_builtin; refine app_m rfl _ _ rfl w.heap.size _ _ rfl hOM hE8 ⟨w5.heap.size + 1, 0, none⟩ 1 (some ⟨w5.heap.size, 0, none⟩) 0 [] rfl hc9 hr8 hlM2 hsz ?_)
          intro v' w' hO9 hg
          go_wp2
          go_ret
          obtain ⟨a9, c9, rfl, _⟩ := hO9.at
          have hg9 : w5.grownBy w' (some g) := by
            refine grownBy_trans (grownBy_ext _ hE8) ?_
            simpa [Value.ownBlock] using hg
          have hgw : w.heap.size ≤ g := (hOM.base g rfl)
          refine ⟨a9, c9, M ++ [[]], rfl, hO9, by simp; omega, fun i hi => ?_, ?_, ?_⟩
          · rcases Nat.lt_or_ge i M.length with h | h
            · have e : row (M ++ [[]]) i = row M i := by unfold row; simp [List.getD_eq_getElem?_getD, List.getElem?_append_left h]
              rw [e]; exact hR9.2 i h
            · have e : i = M.length := by simp at hi; omega
              have e2 : row (M ++ [[]]) i = [] := by rw [e]; unfold row; simp [List.getD_eq_getElem?_getD]
              rw [e2]; simp
          · exact hS5.row hg9 fun k hk => by simp only [Option.some.injEq] at hk; omega
          · refine ⟨hg9.os.trans hG6.os, hg9.tape.trans hG6.tape, hg9.output.trans hG6.output, Nat.le_trans hG6.size hg9.size, fun k hk hn => ?_⟩
            rw [hg9.block k (Nat.lt_of_lt_of_le hk hG6.size) (fun e => by simp only [Option.some.injEq] at e; omega)]
            exact hG6.block k hk hn
        · have hy1' : (y == 1) = false := by rw [beq_eq_false_iff_ne]; exact hy1
          by_cases hy2 : y = 2
          · subst hy2
            clear hy0 hy1
            go_wp2
            go_ret
            exact ⟨none, 0, [], rfl, OwnM.nil _ _, by simp, fun i hi => absurd hi (Nat.not_lt_zero _), hS5, hG6⟩
          · have hy2' : (y == 2) = false := by rw [beq_eq_false_iff_ne]; exact hy2
            have hR9 := HRows.out _ hR.out
            clear hy0 hy1 hy2
            go_wp2
            go_ret
            refine ⟨some ⟨g, 0, none⟩, cap, M, ?_, .inr ⟨g, cap, A, C, rfl, hM5⟩, hR9.1, hR9.2, hS5, hG6⟩
            rw [hlM]; rfl

theorem l02Draw_c (b : Nat) (w : World) (h : Src w b) : Calls Tryz.prog 12 #[.pointer (some ⟨b, 0, none⟩)] w (DrM b w) := by
  have hbw := h.lt
  rw [show (DrM b w) = fun e w' => ∃ a cap M, e = .returned (.slice a (M : List (List Int)).length cap) ∧ OwnM w' w.heap.size (.slice a M.length cap) M ∧ M.length ≤ 100 ∧ (∀ i, i < M.length → (row M i).length ≤ 100) ∧ Src w' b ∧ w.grownBy w' (some b) from rfl]
  go_enter Tryz.func12, Tryz.ntmps12
  go_wp2_with fail
  refine (l01Next_c b _ _ h (by omega) (by omega)).mono ?_
  rintro e w1 ⟨x, rfl, ⟨hx1, -, hx2⟩, hS1, hG1⟩
  have hx3 := hx2 (by omega)
  go_wp2_with fail
  refine (l01Next_c b _ _ hS1 (by omega) (by omega)).mono ?_
  rintro e w2 ⟨y, rfl, ⟨hy1, -, hy2⟩, hS2, hG2⟩
  have hy3 := hy2 (by omega)
  obtain ⟨p, hp⟩ : ∃ p : Nat, 1 + x = (p : Int) := ⟨(1 + x).toNat, by omega⟩
  obtain ⟨q, hq⟩ : ∃ q : Nat, 1 + y = (q : Int) := ⟨(1 + y).toNat, by omega⟩
  have hcall : Calls Tryz.prog 25 #[.pointer (some ⟨b, 0, none⟩), .int .i64 (1 + x), .int .i64 (1 + y)] w2 (DrM b w2) := by
    rw [hp, hq]; exact l02DrawSize_c b p q w2 hS2 (by omega) (by omega) (by omega) (by omega)
  have HC := Lib.hid hcall
  clear hcall hp hq
  go_wp2_with fail
  refine HC.out.mono ?_
  rintro e w3 ⟨a, cap, M, rfl, hO, hl, hr, hS3, hG3⟩
  go_wp2
  go_ret
  exact ⟨a, cap, M, rfl, hO.mono (Nat.le_trans hG1.size hG2.size), hl, hr, hS3, grownBy_trans (grownBy_trans hG1 hG2) hG3⟩

/-- a law's drawn matrix -/
def DrawnM (w : World) (e : Ending) (w' : World) : Prop := ∃ a cap M, e = .returned (.slice a (M : List (List Int)).length cap) ∧ OwnM w' w.heap.size (.slice a M.length cap) M ∧ M.length ≤ 100 ∧ (∀ i, i < M.length → (row M i).length ≤ 100) ∧ Ext w w'
end Go.Proofs.YtkipbfjkcdccjaaGreatDoor
