/- Several texts in one: M6 M7 M8 M9. -/
import Derived.Test.YtokhkpbebimohaaGM
import Derived.Test.YtokhkpbebimohaaGB
import Derived.Test.YtokhkpbebimohaaGP
import Derived.Test.YtokhkpbebimohaaGS
/- Contracts of the reference's functions that make lists and matrices. Conditions: the forms and sizes that each states. -/
namespace Go.Proofs.Ytokhkpbebimohaa
set_option linter.unusedVariables false
open Go.RowKit

theorem l01Own_c (a : Option Addr) (cap : Nat) (xs : List Int) (w : World) (h : IntsAt w a xs) (hn : a = none → cap = 0) (hl : xs.length ≤ 1000000000) :
    Calls Try.prog 165 #[.slice a xs.length cap] w (GivesI w xs) := by
  have hO := OwnI.empty w w.heap.size (Nat.le_refl _)
  have hE := (Ext.refl w).alloc (.cells #[] 2)
  have hs := hE.size
  have hx := h.mono hE
  have hl' : ([] : List Int).length + xs.length ≤ 1000000000 := by simpa using hl
  go_enter Try.func165, Try.ntmps165
  go_wp2_with (at_builtin; refine app_is rfl _ _ rfl w.heap.size _ _ rfl hO a cap xs rfl hn hx hl' hs ?_)
  intro v' w' hO4 hg
  go_wp2
  go_ret
  obtain ⟨a', cap', rfl, _⟩ := hO4.at
  exact ⟨a', cap', rfl, hO4, hE.grown hg hO.base⟩

set_option maxHeartbeats 400000 in
theorem l02Bottom_c (m n : Nat) (w : World) (hm : m ≤ 1000) (hn : n ≤ 1000) : Calls Try.prog 85 #[.int .i64 (m : Int), .int .i64 (n : Int)] w (GivesM w (mkMat m n fun _ _ => -1000000000000000)) := by
  have hO0 := OwnM.empty w w.heap.size (Nat.le_refl _)
  have hE0 := (Ext.refl w).alloc (.cells #[] 34)
  go_enter Try.func85, Try.ntmps85
  go_wp2
  go_loopw [5, 6] (fun s i wr => ∃ (k : Nat), k ≤ m ∧ i = .int .i64 k ∧ Ext w wr ∧ OwnM wr w.heap.size s (mkMat k n fun _ _ => -1000000000000000)) (fun _ i _ => m - (intOf i).toNat)
  case atStart => exact ⟨0, Nat.zero_le _, rfl, hE0, hO0⟩
  case round =>
    obtain ⟨k, hk, rfl, hE, hO⟩ := hrel
    clear hO0 hE0
    obtain ⟨wo, rfl⟩ : ∃ wo, wo = wr := ⟨_, rfl⟩
    by_cases hlt : k < m
    · have hO1 := OwnI.empty wo wo.heap.size (Nat.le_refl _)
      have hE1 := (Ext.refl wo).alloc (.cells #[] 2)
      go_wp2
      go_loopw [7, 8] (fun s i wr => ∃ (j : Nat), j ≤ n ∧ i = .int .i64 j ∧ Ext wo wr ∧ OwnI wr wo.heap.size s (mkRow j fun _ => -1000000000000000)) (fun _ i _ => n - (intOf i).toNat)
      case atStart => exact ⟨0, Nat.zero_le _, rfl, hE1, hO1⟩
      case round =>
        obtain ⟨j, hj, rfl, hE2, hO2⟩ := hrel
        clear hE1 hO1
        by_cases hltn : j < n
        · have hl : (mkRow j fun _ => -1000000000000000).length ≤ 1000000000 := by rw [mkRow_len]; omega
          have hs := (hE2.alloc (.cells #[.int .i64 (-1000000000000000)] 2)).size
          go_wp2_with (at_builtin; refine app_i rfl _ _ rfl wo.heap.size _ _ rfl (hO2.ext ((Ext.refl wr).alloc _)) ⟨wr.heap.size, 0, none⟩ 1 (-1000000000000000) rfl (cell_one _ _ _) hl hs ?_)
          intro v' w' hO4 hg
          go_wp2
          go_roundw
          case rel => exact ⟨j + 1, by omega, by go_num, grown_i hE2 hO2 (Nat.le_refl _) hg, by rw [mkRow_succ]; exact hO4⟩
          case measure => simp [intOf]; omega
        · obtain rfl : n = j := by omega
          obtain ⟨ar, cr, rfl, _⟩ := hO2.at
          have hl : (mkMat k n fun _ _ => -1000000000000000).length ≤ 1000000000 := by rw [mkMat_len]; omega
          have hE3 := hE2.alloc (.cells #[.slice ar (mkRow n fun _ => -1000000000000000).length cr] 34)
          go_wp2_with (at_builtin; refine app_m rfl _ _ rfl w.heap.size _ _ rfl hO hE3 ⟨wr.heap.size, 0, none⟩ 1 ar cr (mkRow n fun _ => -1000000000000000) rfl (cell_one _ _ _) (hO2.ext ((Ext.refl wr).alloc _)) hl hE.size ?_)
          intro v' w' hO4 hg
          go_wp2
          go_roundw
          case rel => exact ⟨k + 1, by omega, by go_num, grown_m (hE.trans hE2) (hO.ext hE2) (Nat.le_refl _) hg, by rw [mkMat_succ]; exact hO4⟩
          case measure => simp [intOf]; omega
    · obtain rfl : m = k := by omega
      go_wp2
      go_ret
      obtain ⟨a, cap, rfl, _⟩ := hO.at
      exact ⟨a, cap, rfl, hO, hE⟩

set_option maxHeartbeats 400000 in
theorem l02Unit_c (n : Nat) (w : World) (hn : n ≤ 1000) : Calls Try.prog 83 #[.int .i64 (n : Int)] w (GivesM w (mkMat n n unitF)) := by
  go_enter Try.func83, Try.ntmps83
  go_wp2_with fail
  refine (l02Bottom_c n n _ hn hn).mono ?_
  rintro e w1 ⟨a, cap, rfl, hO, hE⟩
  have hr := rect_mk n n fun _ _ => -1000000000000000
  have hf : ∀ i j, i < n → j < n → ent (mkMat n n fun _ _ => -1000000000000000) i j = -1000000000000000 := fun i j hi hj => mkMat_ent hi hj
  rcases hO with ⟨hv, hnil⟩ | ⟨g, cap', A, C, hv, hM⟩
  · have hn0 : n = 0 := by have := congrArg List.length hnil; rw [mkMat_len] at this; exact this
    subst hn0
    simp only [Value.slice.injEq] at hv
    obtain ⟨rfl, _, rfl⟩ := hv
    rw [mkMat_len]
    go_wp2
    go_loop [4] (fun i => i = .int .i64 0) (fun _ => 0)
    case atStart => rfl
    case round =>
      subst hrel
      go_wp2
      go_ret
      exact ⟨none, 0, rfl, OwnM.nil _ _, hE⟩
  · rw [mkMat_len] at hv ⊢
    simp only [Value.slice.injEq, true_and] at hv
    obtain ⟨rfl, rfl⟩ := hv
    generalize (mkMat n n fun _ _ => -1000000000000000) = M0 at *
    have Hf := Lib.hid hf
    have Hr := Lib.hid hr
    clear hf hr
    go_wp2
    go_loopw [4] (fun i wr => ∃ (k : Nat) (M : List (List Int)), k ≤ n ∧ i = .int .i64 k ∧ Ext w wr ∧ Mat wr w.heap.size g cap A C M ∧ Hid (Rect M n n ∧ ∀ i j, i < n → j < n → ent M i j = if i = j ∧ i < k then 0 else -1000000000000000)) (fun i _ => n - (intOf i).toNat)
    case atStart => exact ⟨0, M0, Nat.zero_le _, rfl, hE, hM, Hr.out, fun i j hi hj => by rw [Hf.out i j hi hj]; simp⟩
    case round =>
      obtain ⟨k, M, hk, rfl, hE2, hM2, hj⟩ := hrel
      clear hE hM
      obtain ⟨hr, hf⟩ := hj.out
      by_cases hlt : k < n
      · have hkM : k < M.length := by rw [hr.1]; exact hlt
        have hrk := hr.2 k hlt
        obtain ⟨r, hA, hBr, hrs, hce, hfe⟩ := hM2.addr hkM (by rw [hrk]; omega)
        have c1 := hM2.cell hkM
        rw [hrk, hA] at c1
        have c2 := hce k (by rw [hrk]; exact hlt)
        have f2 := hfe k
        have HA := Lib.hid hA
        have Hrf := Lib.hid (And.intro hr hf)
        clear hce hfe hr hf hrk hA hj
        go_wp2
        go_roundw
        case rel =>
          obtain ⟨hr, hf⟩ := Hrf.out
          have hrk := hr.2 k hlt
          refine ⟨k + 1, M.set k ((row M k).set k 0), by omega, by go_num, hE2.set hBr _, hM2.set hkM HA.out k 0, rect_set hr hlt, fun i j hi hj => ?_⟩
          rw [ent_set hkM (by rw [hrk]; exact hlt), hf i j hi hj]
          by_cases e : i = k ∧ j = k
          · rw [if_pos e, if_pos (by omega)]
          · rw [if_neg e]
            by_cases e2 : i = j ∧ i < k
            · rw [if_pos e2, if_pos (by omega)]
            · rw [if_neg e2, if_neg (by omega)]
        case measure => simp [intOf]; omega
      · obtain rfl : n = k := by omega
        go_wp2
        go_ret
        have e : M = mkMat n n unitF := rect_eq_mk hr fun i j hi hj => by
          rw [hf i j hi hj]; unfold unitF
          by_cases e : i = j
          · rw [if_pos e, if_pos ⟨e, hi⟩]
          · rw [if_neg e, if_neg (fun h => e h.1)]
        subst e
        exact ⟨_, cap, by rw [mkMat_len]; rfl, .inr ⟨g, cap, A, C, rfl, hM2⟩, hE2⟩

end Go.Proofs.Ytokhkpbebimohaa

/- Contracts of the reference's functions that copy a matrix and write into the copy. Conditions: the forms of the matrices. -/
namespace Go.Proofs.Ytokhkpbebimohaa
set_option linter.unusedVariables false
open Go.RowKit

/-- a slice of slices that is not empty, opened -/
theorem OwnM.open {w : World} {B n cap : Nat} {a : Option Addr} {m : List (List Int)} (h : OwnM w B (.slice a n cap) m) (h0 : 0 < m.length) : ∃ g A C, a = some ⟨g, 0, none⟩ ∧ Mat w B g cap A C m := by
  rcases h with ⟨_, h2⟩ | ⟨g, cap', A, C, h1, h2⟩
  · rw [h2] at h0; simp at h0
  · simp only [Value.slice.injEq] at h1
    obtain ⟨rfl, _, rfl⟩ := h1
    exact ⟨g, A, C, rfl, h2⟩
theorem Mat.give {w wr : World} {g cap : Nat} {A : Nat → Option Addr} {C : Nat → Nat} {m : List (List Int)} {n : Nat} {e : Ending} (h : Mat wr w.heap.size g cap A C m) (hE : Ext w wr) (hn : m.length = n) (he : e = .returned (.slice (some ⟨g, 0, none⟩) n cap)) : GivesM w m e wr :=
  ⟨_, cap, by rw [hn]; exact he, .inr ⟨g, cap, A, C, rfl, h⟩, hE⟩

set_option maxHeartbeats 400000 in
theorem l02Own_c (a : Option Addr) (cap : Nat) (m : List (List Int)) (w : World) (h : MatAt w a m) (hl : m.length ≤ 1000000) (hr : ∀ i, i < m.length → (row m i).length ≤ 1000000) :
    Calls Try.prog 155 #[.slice a m.length cap] w (GivesM w m) := by
  have hO0 := OwnM.empty w w.heap.size (Nat.le_refl _)
  have hE0 := (Ext.refl w).alloc (.cells #[] 34)
  go_enter Try.func155, Try.ntmps155
  go_wp2
  go_loopw [3, 4] (fun s i wr => ∃ (k : Nat), k ≤ m.length ∧ i = .int .i64 k ∧ Ext w wr ∧ OwnM wr w.heap.size s (m.take k)) (fun _ i _ => m.length - (intOf i).toNat)
  case atStart => exact ⟨0, Nat.zero_le _, rfl, hE0, hO0⟩
  case round =>
    obtain ⟨k, hk, rfl, hE, hO⟩ := hrel
    clear hO0 hE0
    by_cases hlt : k < m.length
    · obtain ⟨b, o, rfl, hc⟩ := (h.mono hE).at hlt
      obtain ⟨ai, ci, c1, hx, hn⟩ := hc k hlt
      clear hc
      go_wp2_with fail
      refine (l01Own_c _ _ _ _ hx hn (by have := hr k hlt; omega)).mono ?_
      rintro e w2 ⟨ar, cr, rfl, hO2, hE2⟩
      have hl2 : (m.take k).length ≤ 1000000000 := by simp; omega
      have hE3 := hE2.alloc (.cells #[.slice ar (row m k).length cr] 34)
      go_wp2_with (at_builtin; refine app_m rfl _ _ rfl w.heap.size _ _ rfl hO hE3 ⟨w2.heap.size, 0, none⟩ 1 ar cr (row m k) rfl (cell_one _ _ _) (hO2.ext ((Ext.refl w2).alloc _)) hl2 hE.size ?_)
      intro v' w' hO4 hg
      go_wp2
      go_roundw
      case rel => exact ⟨k + 1, by omega, by go_num, grown_m (hE.trans hE2) (hO.ext hE2) (Nat.le_refl _) hg, by rw [List.take_succ_eq_append_getElem hlt, ← row_of_lt hlt]; exact hO4⟩
      case measure => simp [intOf]; omega
    · obtain rfl : k = m.length := by omega
      go_wp2
      go_ret
      rw [List.take_length] at hO
      obtain ⟨a', cap', rfl, _⟩ := hO.at
      exact ⟨a', cap', rfl, hO, hE⟩

set_option maxHeartbeats 1000000 in
theorem l02Add_c (a b : Option Addr) (ca cb m n : Nat) (x y : List (List Int)) (w : World) (hx : MatAt w a x) (hy : MatAt w b y) (rx : Rect x m n) (ry : Rect y m n) (h0 : 0 < m) (hn0 : 0 < n) (hm : m ≤ 1000) (hn : n ≤ 1000) :
    Calls Try.prog 137 #[.slice a x.length ca, .slice b y.length cb] w (GivesM w (mkMat m n (addE x y))) := by
  have HR := Lib.hid (And.intro rx ry)
  clear rx ry
  go_enter Try.func137, Try.ntmps137
  go_wp2_with fail
  refine (l02Own_c a ca x _ hx (by rw [HR.out.1.1]; omega) (fun i hi => by rw [HR.out.1.2 i (by rw [← HR.out.1.1]; exact hi)]; omega)).mono ?_
  rintro e w1 ⟨a', cap, rfl, hO, hE⟩
  obtain ⟨g, A, C, rfl, hM⟩ := hO.open (by rw [HR.out.1.1]; exact h0)
  rw [HR.out.1.1, HR.out.2.1]
  clear hx hO
  go_wp2
  go_loopw [6] (fun i wr => ∃ (k : Nat) (M : List (List Int)), k ≤ m ∧ i = .int .i64 k ∧ Ext w wr ∧ Mat wr w.heap.size g cap A C M ∧ Hid (FillD (addE x y) (ent x) m n (fun i j => i < k) M)) (fun i _ => m - (intOf i).toNat)
  case atStart => exact ⟨0, x, Nat.zero_le _, rfl, hE, hM, FillD.start HR.out.1 (fun i j _ _ => rfl) (fun i j _ _ => Nat.not_lt_zero _)⟩
  case round =>
    obtain ⟨k, M, hk, rfl, hE2, hM2, hF⟩ := hrel
    clear hE hM
    by_cases hlt : k < m
    · go_wp2
      go_loopw [7] (fun i wr => ∃ (t : Nat) (M : List (List Int)), t ≤ n ∧ i = .int .i64 t ∧ Ext w wr ∧ Mat wr w.heap.size g cap A C M ∧ Hid (FillD (addE x y) (ent x) m n (fun i j => i < k ∨ (i = k ∧ j < t)) M)) (fun i _ => n - (intOf i).toNat)
      case atStart => exact ⟨0, M, Nat.zero_le _, rfl, hE2, hM2, hF.out.congr fun i j _ _ => by omega⟩
      case round =>
        obtain ⟨t, M3, ht, rfl, hE3, hM3, hF3⟩ := hrel
        clear hE2 hM2
        have hkM : k < M3.length := by rw [hF3.out.1.1]; exact hlt
        have hrk : (row M3 k).length = n := hF3.out.1.2 k hlt
        have c1 := hM3.cell hkM
        rw [hrk] at c1
        by_cases hltn : t < n
        · obtain ⟨r, hA, hBr, hrs, hce, hfe⟩ := hM3.addr hkM (by rw [hrk]; omega)
          have c2 := hce t (by rw [hrk]; exact hltn)
          have f2 := hfe t
          rw [hA] at c1
          have he : ent M3 k t = ent x k t := hF3.out.todo hlt hltn (by omega)
          rw [he] at c2
          obtain ⟨q, o', rfl, hd⟩ := (hy.mono hE3).at (i := k) (by rw [HR.out.2.1]; exact hlt)
          obtain ⟨bi, di, d1, hy1, _⟩ := hd k (by rw [HR.out.2.1]; exact hlt)
          rw [HR.out.2.2 k hlt] at d1
          obtain ⟨q2, o3, rfl, hd2⟩ := hy1.at (i := t) (by rw [HR.out.2.2 k hlt]; exact hltn)
          have d2 : wr.cell? ⟨q2, o3 + t, none⟩ = some (.int .i64 (ent y k t)) := hd2 t (by rw [HR.out.2.2 k hlt]; exact hltn)
          have HA := Lib.hid hA
          clear hce hfe hd hd2 hrk he hA hy1
          by_cases hmx : ent x k t < ent y k t
          · have hs : addE x y k t = ent y k t := by unfold addE; omega
            have Hs := Lib.hid hs
            clear hs
            go_wp2_with fail
            refine region_qt_lit 21 (by kernel_rfl) (by kernel_rfl) ?_
            simp only [List.take_succ_cons, List.take_zero, List.drop_succ_cons, List.drop_zero]
            repeat (go_big_quiet_step ((fail)))
            refine wpQuiet_nil ?_
            intro _ hw'
            obtain ⟨nq, hw''⟩ := hw'
            subst hw''
            go_wp2
            go_roundw
            case rel =>
              refine ⟨t + 1, M3.set k ((row M3 k).set t (addE x y k t)), by omega, by go_num, ?_, ?_, hF3.out.step hlt hltn fun i j _ _ => by omega⟩
              · repeat (first | exact hE3 | refine Ext.drewN ?_ _ | refine Ext.drew ?_ | refine Ext.set ?_ hBr _)
              · rw [Hs.out]; exact (hM3.set hkM HA.out t _).ext ⟨rfl, rfl, rfl, Nat.le_refl _, fun _ _ => rfl⟩
            case measure => simp [intOf]; omega
          · have hs : addE x y k t = ent x k t := by unfold addE; omega
            have Hs := Lib.hid hs
            clear hs
            go_wp2_with fail
            refine region_qt_lit 21 (by kernel_rfl) (by kernel_rfl) ?_
            simp only [List.take_succ_cons, List.take_zero, List.drop_succ_cons, List.drop_zero]
            repeat (go_big_quiet_step ((fail)))
            refine wpQuiet_nil ?_
            intro _ hw'
            obtain ⟨nq, hw''⟩ := hw'
            subst hw''
            go_wp2
            go_roundw
            case rel =>
              refine ⟨t + 1, M3.set k ((row M3 k).set t (addE x y k t)), by omega, by go_num, ?_, ?_, hF3.out.step hlt hltn fun i j _ _ => by omega⟩
              · repeat (first | exact hE3 | refine Ext.drewN ?_ _ | refine Ext.drew ?_ | refine Ext.set ?_ hBr _)
              · rw [Hs.out]; exact (hM3.set hkM HA.out t _).ext ⟨rfl, rfl, rfl, Nat.le_refl _, fun _ _ => rfl⟩
            case measure => simp [intOf]; omega
        · obtain rfl : n = t := by omega
          go_wp2
          go_roundw
          case rel => exact ⟨k + 1, M3, by omega, by go_num, hE3, hM3, hF3.out.congr fun i j _ _ => by omega⟩
          case measure => simp [intOf]; omega
    · obtain rfl : m = k := by omega
      have e := hF.out.done fun i j hi hj => hi
      go_wp2
      go_ret
      subst e
      exact hM2.give hE2 (mkMat_len _ _ _) rfl

end Go.Proofs.Ytokhkpbebimohaa

/- Contracts of the products of matrices and vectors. Conditions: the forms and bounds of the matrices. -/
namespace Go.Proofs.Ytokhkpbebimohaa
set_option linter.unusedVariables false
open Go.RowKit

/-- the cells of a matrix that is read -/
theorem MatAt.base {w : World} {a : Option Addr} {x : List (List Int)} (h : MatAt w a x) (h0 : 0 < x.length) : ∃ p o, a = some ⟨p, o, none⟩ := by
  obtain ⟨p, o, e, _⟩ := h.at h0; exact ⟨p, o, e⟩
theorem IntsAt.base {w : World} {a : Option Addr} {x : List Int} (h : IntsAt w a x) (h0 : 0 < x.length) : ∃ p o, a = some ⟨p, o, none⟩ := by
  obtain ⟨p, o, e, _⟩ := h.at h0; exact ⟨p, o, e⟩
theorem IntsAt.cell {w : World} {p o : Nat} {x : List Int} (h : IntsAt w (some ⟨p, o, none⟩) x) {i : Nat} (hi : i < x.length) : w.cell? ⟨p, o + i, none⟩ = some (.int .i64 (nth x i)) := by
  obtain ⟨p', o', e, hc⟩ := h.at hi
  simp only [Option.some.injEq, Addr.mk.injEq, and_true] at e
  obtain ⟨rfl, rfl⟩ := e
  exact hc i hi
theorem MatAt.hdr {w : World} {p o : Nat} {x : List (List Int)} (h : MatAt w (some ⟨p, o, none⟩) x) {m n : Nat} (r : Rect x m n) {i : Nat} (hi : i < m) (h0 : 0 < n) :
    ∃ q o2 c, w.cell? ⟨p, o + i, none⟩ = some (.slice (some ⟨q, o2, none⟩) n c) ∧ (∀ j, j < n → w.cell? ⟨q, o2 + j, none⟩ = some (.int .i64 (ent x i j))) ∧ IntsAt w (some ⟨q, o2, none⟩) (row x i) := by
  obtain ⟨p', o', e, hc⟩ := h.at (i := i) (by rw [r.1]; exact hi)
  simp only [Option.some.injEq, Addr.mk.injEq, and_true] at e
  obtain ⟨rfl, rfl⟩ := e
  obtain ⟨ai, ci, c1, hx, _⟩ := hc i (by rw [r.1]; exact hi)
  rw [r.2 i hi] at c1
  obtain ⟨q, o2, rfl, hd⟩ := hx.at (i := 0) (by rw [r.2 i hi]; exact h0)
  exact ⟨q, o2, ci, c1, fun j hj => hd j (by rw [r.2 i hi]; exact hj), hx⟩

theorem times_cT {a b t : Int} (e : times a b = t) (w : World) (ha : -4000000000000000000 ≤ a ∧ a ≤ 4000000000000000000) (hb : -4000000000000000000 ≤ b ∧ b ≤ 4000000000000000000) :
    Calls Try.prog 132 #[.int .i64 a, .int .i64 b] w fun e w' => e = .returned (.int .i64 t) ∧ w = w' := by subst e; exact times_c a b w ha hb
theorem l01Times_cT {a b t : Int} (e : times a b = t) (w : World) (ha : -4000000000000000000 ≤ a ∧ a ≤ 4000000000000000000) (hb : -4000000000000000000 ≤ b ∧ b ≤ 4000000000000000000) :
    Calls Try.prog 97 #[.int .i64 a, .int .i64 b] w fun e w' => e = .returned (.int .i64 t) ∧ w = w' := by subst e; exact l01Times_c a b w ha hb

theorem FillD.redo {F I I' : Nat → Nat → Int} {m n : Nat} {M : List (List Int)} {D : Nat → Nat → Prop} (h : FillD F I m n D M) {i j : Nat} (hi : i < m) (hj : j < n) (hD : ¬ D i j)
    (hI : ∀ i' j', ¬ (i' = i ∧ j' = j) → I' i' j' = I i' j') : FillD F I' m n D (M.set i ((row M i).set j (I' i j))) := by
  obtain ⟨hr, h⟩ := h
  have hk : i < M.length := by rw [hr.1]; exact hi
  refine ⟨rect_set hr hi, fun i' j' hi' hj' => ?_⟩
  rw [ent_set hk (by rw [hr.2 i hi]; exact hj)]
  by_cases e : i' = i ∧ j' = j
  · obtain ⟨rfl, rfl⟩ := e
    rw [if_pos ⟨rfl, rfl⟩]
    exact ⟨fun hd => absurd hd hD, fun _ => rfl⟩
  · rw [if_neg e, hI i' j' e]; exact h i' j' hi' hj'
theorem FillD.swap {F I I' : Nat → Nat → Int} {m n : Nat} {M : List (List Int)} {D D' : Nat → Nat → Prop} (h : FillD F I m n D M) (hI : ∀ i j, i < m → j < n → ¬ D' i j → I' i j = I i j ∧ ¬ D i j)
    (hF : ∀ i j, i < m → j < n → D' i j → D i j ∨ (I i j = F i j ∧ ¬ D i j)) : FillD F I' m n D' M :=
  ⟨h.1, fun i j hi hj => ⟨fun hd => by
    rcases hF i j hi hj hd with e | ⟨e1, e2⟩
    · exact (h.2 i j hi hj).1 e
    · rw [(h.2 i j hi hj).2 e2, e1], fun hd => by rw [(hI i j hi hj hd).1]; exact (h.2 i j hi hj).2 (hI i j hi hj hd).2⟩⟩

theorem mulF_c (b1 b2 : Nat) (a b : Option Addr) (ca cb m K n : Nat) (x y : List (List Int)) (i j : Nat) (w : World) (h1 : w.cell? ⟨b1, 0, none⟩ = some (.slice a x.length ca)) (h2 : w.cell? ⟨b2, 0, none⟩ = some (.slice b y.length cb))
    (hx : MatAt w a x) (hy : MatAt w b y) (rx : Rect x m K) (ry : Rect y K n) (hi : i < m) (hj : j < n) (hK : 0 < K) (hbx : EBd 4000000000000000000 x) (hby : EBd 4000000000000000000 y) :
    Calls Try.prog 131 #[.int .i64 (i : Int), .int .i64 (j : Int), .pointer (some ⟨b1, 0, none⟩), .pointer (some ⟨b2, 0, none⟩)] w fun e w' => e = .returned (.int .i64 (mulE K x y i j)) ∧ Qt w w' := by
  obtain ⟨p, o, rfl⟩ := hx.base (by rw [rx.1]; omega)
  obtain ⟨q, o2, c, d1, d2, _⟩ := hx.hdr rx hi hK
  obtain ⟨p', o', rfl⟩ := hy.base (by rw [ry.1]; omega)
  have hxl := hx.len
  have hyl := hy.len
  rw [rx.1] at h1 hxl
  rw [ry.1] at h2 hyl
  have HY := Lib.hid (And.intro hy (And.intro ry (And.intro hbx hby)))
  have HD := Lib.hid d2
  clear hx hy rx ry d2 hbx hby
  go_enter Try.func131, Try.ntmps131
  go_wp2
  go_loopw [7, 15] (fun s i' wr => ∃ k : Nat, k ≤ K ∧ i' = .int .i64 k ∧ s = .int .i64 (mx k fun k => times (ent x i k) (ent y k j)) ∧ Qt w wr) (fun _ i _ => K - (intOf i).toNat)
  case atStart => exact ⟨0, Nat.zero_le _, rfl, rfl, Qt.refl _⟩
  case round =>
    obtain ⟨k, hk, rfl, rfl, hq⟩ := hrel
    by_cases hlt : k < K
    · obtain ⟨q2, o3, c2, e1, e2, _⟩ := HY.out.1.hdr HY.out.2.1 hlt (Nat.lt_of_le_of_lt (Nat.zero_le _) hj)
      have e2 := e2 j hj
      have d2 := HD.out k hlt
      obtain ⟨nq, rfl⟩ := hq
      replace e1 : (w.drewN nq).cell? _ = _ := e1
      replace e2 : (w.drewN nq).cell? _ = _ := e2
      replace d1 : (w.drewN nq).cell? _ = _ := d1
      replace d2 : (w.drewN nq).cell? _ = _ := d2
      replace h2 : (w.drewN nq).cell? _ = _ := h2
      have hbe := HY.out.2.2.1 i k
      have hbf := HY.out.2.2.2 k j
      have hstep : mx (k + 1) (fun k => times (ent x i k) (ent y k j)) = max (mx k fun k => times (ent x i k) (ent y k j)) (times (ent x i k) (ent y k j)) := rfl
      generalize hS : mx k (fun k => times (ent x i k) (ent y k j)) = S at hstep ⊢
      have hstep := Lib.hid hstep
      have hS := Lib.hid hS
      have hbe := Lib.hid hbe
      have hbf := Lib.hid hbf
      generalize hT : times (ent x i k) (ent y k j) = t at hstep
      have hT := Lib.hid hT
      by_cases hmx : S < t
      · have hm : max S t = t := by omega
        rw [hm] at hstep
        clear hm
        go_wp2_with fail
        refine (times_c (ent x i k) (ent y k j) _ hbe.out hbf.out).mono ?_
        rintro e w' ⟨rfl, rfl⟩
        rw [hT.out]
        go_wp2
        go_roundw
        case rel => exact ⟨k + 1, by omega, by go_num, by rw [hstep.out], ⟨nq, rfl⟩⟩
        case measure => simp [intOf]; omega
      · have hm : max S t = S := by omega
        rw [hm] at hstep
        clear hm
        go_wp2_with fail
        refine (times_c (ent x i k) (ent y k j) _ hbe.out hbf.out).mono ?_
        rintro e w' ⟨rfl, rfl⟩
        rw [hT.out]
        go_wp2
        go_roundw
        case rel => exact ⟨k + 1, by omega, by go_num, by rw [hstep.out], ⟨nq, rfl⟩⟩
        case measure => simp [intOf]; omega
    · obtain rfl : K = k := by omega
      go_wp2
      go_ret
      exact ⟨rfl, hq⟩
theorem mulF_enter (args : Array Value) (w : World) : Sem.run Try.prog (callFunc 131 args) w = .ok (.enter 131 args) w := by
  simp [callFunc, Try.func131, Try.f131]

set_option maxHeartbeats 400000 in
theorem multiply_c (a b : Option Addr) (ca cb m K n : Nat) (x y : List (List Int)) (w : World) (hx : MatAt w a x) (hy : MatAt w b y) (rx : Rect x m K) (ry : Rect y K n) (h0 : 0 < m) (hK : 0 < K) (hn0 : 0 < n) (hm : m ≤ 100) (hn : n ≤ 100)
    (hbx : EBd 4000000000000000000 x) (hby : EBd 4000000000000000000 y) :
    Calls Try.prog 79 #[.slice a x.length ca, .slice b y.length cb] w (GivesM w (mkMat m n (mulE K x y))) := by
  obtain ⟨W1, hW1⟩ : ∃ W, w.alloc (.cells #[.slice a x.length ca] 24) = W := ⟨_, rfl⟩
  have hE1 : Ext w W1 := by rw [← hW1]; exact (Ext.refl w).alloc _
  have hb1 : W1.cell? ⟨w.heap.size, 0, none⟩ = some (.slice a x.length ca) := by rw [← hW1]; simp
  obtain ⟨W, hW⟩ : ∃ W, W1.alloc (.cells #[.slice b y.length cb] 24) = W := ⟨_, rfl⟩
  have hE2 : Ext W1 W := by rw [← hW]; exact (Ext.refl W1).alloc _
  have hb2 : W.cell? ⟨W1.heap.size, 0, none⟩ = some (.slice b y.length cb) := by rw [← hW]; simp
  have hb1' := hE2.cell hb1
  have hE := hE1.trans hE2
  have hx' := hx.mono hE
  have hy' := hy.mono hE
  have H := Lib.hid (fun (W' : World) (hq : Ext W W') => matrixBy_c 131 #[.pointer (some ⟨w.heap.size, 0, none⟩), .pointer (some ⟨W1.heap.size, 0, none⟩)] m n (mulE K x y) W' hm hn mulF_enter
    (fun i j w' hi hj hE' => mulF_c w.heap.size W1.heap.size a b ca cb m K n x y i j w' (hE'.cell (hq.cell hb1')) (hE'.cell (hq.cell hb2)) ((hx'.mono hq).mono hE') ((hy'.mono hq).mono hE') rx ry hi hj hK hbx hby))
  obtain ⟨p, o, rfl⟩ := hy'.base (by rw [ry.1]; exact hK)
  obtain ⟨q, o2, c, c1, _, _⟩ := hy'.hdr ry hK hn0
  rw [Nat.add_zero] at c1
  rw [rx.1] at hb1' hW1 ⊢
  rw [ry.1] at hb2 hW ⊢
  have hz : (0 : Int) < (K : Int) := by omega
  clear hx hy hx' hy' hE1 hE2 hb1 rx ry hbx hby
  go_enter Try.func79, Try.ntmps79
  go_wp2_with fail
  refine region_qt_lit 7 (by kernel_rfl) (by kernel_rfl) ?_
  simp only [List.take_succ_cons, List.take_zero, List.drop_succ_cons, List.drop_zero]
  repeat (go_big_quiet_step ((fail)))
  refine wpQuiet_nil ?_
  intro _ hw'
  obtain ⟨nq, hw''⟩ := hw'
  subst hw''
  go_wp2_with fail
  refine (H.out _ ((Ext.refl W).drewN _)).mono ?_
  rintro e w' ⟨a', cap', rfl, h1, h2⟩
  go_wp2
  go_ret
  exact ⟨a', cap', rfl, h1.mono (by have := hE.size; simpa using this), hE.trans (((Ext.refl W).drewN _).trans h2)⟩

theorem checkedVector_c (a : Option Addr) (cap : Nat) (x : List Int) (w : World) (h : IntsAt w a x) :
    Calls Try.prog 90 #[.slice a x.length cap] w fun e w' => e = .returned (.tuple (if allV x then #[.slice a x.length cap, .int .i64 0] else #[.slice none 0 0, .int .i64 3])) ∧ w = w' := by
  cases hv : allV x
  · have HC := Lib.hid hv
    clear hv
    go_enter Try.func90, Try.ntmps90
    go_wp2_with fail
    refine (asB HC.out (areValues_c _ _ _ _ h)).mono ?_
    rintro e w' ⟨rfl, rfl⟩
    go_wp2
    go_ret2
    exact ⟨rfl, rfl⟩
  · have HC := Lib.hid hv
    clear hv
    go_enter Try.func90, Try.ntmps90
    go_wp2_with fail
    refine (asB HC.out (areValues_c _ _ _ _ h)).mono ?_
    rintro e w' ⟨rfl, rfl⟩
    go_wp2
    go_ret2
    exact ⟨rfl, rfl⟩

set_option maxHeartbeats 1000000 in
theorem timesVector_c (a b : Option Addr) (ca cb m n : Nat) (x : List (List Int)) (v : List Int) (w : World) (hx : MatAt w a x) (hv : IntsAt w b v) (rx : Rect x m n) (hl : v.length = n) (hn0 : 0 < n) (hm0 : 0 < m) (hm : m ≤ 1000)
    (hbx : EBd 4000000000000000000 x) (hbv : VBd 4000000000000000000 v) :
    Calls Try.prog 91 #[.slice a x.length ca, .slice b v.length cb] w (GivesI w (mkRow m (appF n x v))) := by
  obtain ⟨p, o, rfl⟩ := hx.base (by rw [rx.1]; exact hm0)
  obtain ⟨p2, o2, rfl⟩ := hv.base (by rw [hl]; exact hn0)
  have hvl := hv.len
  rw [rx.1, hl]
  rw [hl] at hvl
  have HX := Lib.hid (And.intro hx (And.intro rx (And.intro hv (And.intro hl (And.intro hbx hbv)))))
  clear hx rx hv hl hbx hbv
  have hmk := run_make_row' (P := Try.prog) 34 2 (.int .i64 0) 8 Try.underlying34 info_i rfl .i64 .i64 m (by omega) (by omega)
  have hE0 := (Ext.refl w).alloc (.cells (madeCells #[.int .i64 0] m) 2)
  have hO0 := OwnI.made w w.heap.size m (Nat.le_refl _) (by omega)
  rw [List.length_replicate] at hO0
  go_enter Try.func91, Try.ntmps91
  go_wp2
  clear hmk
  go_loopw [15] (fun i wr => ∃ (k : Nat) (L : List Int), k ≤ m ∧ i = .int .i64 k ∧ Ext w wr ∧ OwnI wr w.heap.size (.slice (some ⟨w.heap.size, 0, none⟩) m m) L ∧ Hid (L.length = m ∧ ∀ j, j < k → nth L j = appF n x v j)) (fun i _ => m - (intOf i).toNat)
  case atStart => exact ⟨0, _, Nat.zero_le _, rfl, hE0, hO0, by simp, fun j hj => absurd hj (Nat.not_lt_zero _)⟩
  case round =>
    obtain ⟨k, L, hk, rfl, hE, hO, hj⟩ := hrel
    clear hE0 hO0
    by_cases hlt : k < m
    · obtain ⟨q, o3, c, d1, d2, _⟩ := HX.out.1.hdr HX.out.2.1 hlt hn0
      replace d1 := hE.cell d1
      have D2 := Lib.hid d2
      obtain ⟨g, hg, hBg, hgs, hce, hfe⟩ := hO.open (by omega)
      simp only [Option.some.injEq, Addr.mk.injEq, and_true] at hg
      subst hg
      have c2 := hce k hlt
      have f2 := hfe k
      have hO2 := hO
      rw [← hj.out.1] at hO2
      replace hO2 := hO2.set k (-1000000000000000)
      rw [hj.out.1] at hO2
      have hE2 := hE.set (p := ⟨w.heap.size, k, none⟩) (Nat.le_refl _) (.int .i64 (-1000000000000000))
      obtain ⟨W2, hW2⟩ : ∃ W2, wr.setCell ⟨w.heap.size, k, none⟩ (.int .i64 (-1000000000000000)) = W2 := ⟨_, rfl⟩
      rw [hW2] at hO2 hE2
      have hj2 : Hid ((L.set k (-1000000000000000)).length = m ∧ (∀ j, j < k → nth (L.set k (-1000000000000000)) j = appF n x v j) ∧ nth (L.set k (-1000000000000000)) k = mx 0 fun t => times (ent x k t) (nth v t)) :=
        ⟨by simpa using hj.out.1, fun j h => by rw [nth_set _ _ _ _ (by rw [hj.out.1]; exact hlt), if_neg (by omega)]; exact hj.out.2 j h, by rw [nth_set _ _ _ _ (by rw [hj.out.1]; exact hlt), if_pos rfl]; rfl⟩
      generalize L.set k (-1000000000000000) = L2 at *
      clear hce hfe d2 hO hj
      go_wp2
      clear c2 f2 hW2
      go_loopw [25] (fun i wi => ∃ (t : Nat) (L3 : List Int), t ≤ n ∧ i = .int .i64 t ∧ Ext w wi ∧ OwnI wi w.heap.size (.slice (some ⟨w.heap.size, 0, none⟩) m m) L3 ∧ Hid (L3.length = m ∧ (∀ j, j < k → nth L3 j = appF n x v j) ∧ nth L3 k = mx t fun t => times (ent x k t) (nth v t))) (fun i _ => n - (intOf i).toNat)
      case atStart => exact ⟨0, L2, Nat.zero_le _, rfl, hE2, hO2, hj2⟩
      case round =>
        obtain ⟨t, L3, ht, rfl, hE3, hO3, hj3⟩ := hrel
        clear hE2 hO2
        by_cases hltn : t < n
        · obtain ⟨g, hg, hBg, hgs, hce, hfe⟩ := hO3.open (by omega)
          simp only [Option.some.injEq, Addr.mk.injEq, and_true] at hg
          subst hg
          have c2 := hce k hlt
          have f2 := hfe k
          have d2 := hE3.cell (D2.out t hltn)
          have e2 := hE3.cell (HX.out.2.2.1.cell (i := t) (by rw [HX.out.2.2.2.1]; exact hltn))
          have hstep : mx (t + 1) (fun t => times (ent x k t) (nth v t)) = max (nth L3 k) (times (ent x k t) (nth v t)) := by rw [hj3.out.2.2]; rfl
          have hbe := Lib.hid (HX.out.2.2.2.2.1 k t)
          have hbf := Lib.hid (HX.out.2.2.2.2.2 t)
          have hlen := hj3.out.1
          have hset : ∀ z : Int, OwnI (wr.setCell ⟨w.heap.size, k, none⟩ (.int .i64 z)) w.heap.size (.slice (some ⟨w.heap.size, 0, none⟩) m m) (L3.set k z) := fun z => by
            have h := hO3
            rw [← hlen] at h
            have := h.set k z
            rwa [hlen] at this
          have hset := Lib.hid hset
          generalize hT : times (ent x k t) (nth v t) = u at hstep
          have hT := Lib.hid hT
          have hstep := Lib.hid hstep
          have hlen := Lib.hid hlen
          have hnext : ∀ z, z = mx (t + 1) (fun t => times (ent x k t) (nth v t)) → Hid ((L3.set k z).length = m ∧ (∀ j, j < k → nth (L3.set k z) j = appF n x v j) ∧ nth (L3.set k z) k = mx (t + 1) fun t => times (ent x k t) (nth v t)) := fun z hz =>
            ⟨by simpa using hlen.out, fun j h => by rw [nth_set _ _ _ _ (by rw [hlen.out]; exact hlt), if_neg (by omega)]; exact hj3.out.2.1 j h, by rw [nth_set _ _ _ _ (by rw [hlen.out]; exact hlt), if_pos rfl]; exact hz⟩
          have hnext := Lib.hid hnext
          clear hce hfe hO3 hj3
          by_cases hmx : nth L3 k < u
          · have hm : max (nth L3 k) u = u := by omega
            rw [hm] at hstep
            clear hm
            go_wp2_with fail
            refine region_qt_lit 14 (by kernel_rfl) (by kernel_rfl) ?_
            simp only [List.take_succ_cons, List.take_zero, List.drop_succ_cons, List.drop_zero]
            repeat (go_big_quiet_step ((go_at_call 132; exact quiet_pure (times_cT hT.out _ hbe.out hbf.out))))
            refine wpQuiet_nil ?_
            intro _ hw'
            obtain ⟨nq, hw''⟩ := hw'
            subst hw''
            go_wp2
            go_roundw
            case rel =>
              refine ⟨t + 1, L3.set k u, by omega, by go_num, ?_, ?_, hnext.out u hstep.out.symm⟩
              · repeat (first | exact hE3 | refine Ext.drewN ?_ _ | refine Ext.drew ?_ | refine Ext.set ?_ (Nat.le_refl _) _)
              · exact (hset.out u).ext ⟨rfl, rfl, rfl, Nat.le_refl _, fun _ _ => rfl⟩
            case measure => simp [intOf]; omega
          · have hm : max (nth L3 k) u = nth L3 k := by omega
            rw [hm] at hstep
            clear hm
            go_wp2_with fail
            refine region_qt_lit 14 (by kernel_rfl) (by kernel_rfl) ?_
            simp only [List.take_succ_cons, List.take_zero, List.drop_succ_cons, List.drop_zero]
            repeat (go_big_quiet_step ((go_at_call 132; exact quiet_pure (times_cT hT.out _ hbe.out hbf.out))))
            refine wpQuiet_nil ?_
            intro _ hw'
            obtain ⟨nq, hw''⟩ := hw'
            subst hw''
            go_wp2
            go_roundw
            case rel =>
              refine ⟨t + 1, L3.set k (nth L3 k), by omega, by go_num, ?_, ?_, hnext.out (nth L3 k) hstep.out.symm⟩
              · repeat (first | exact hE3 | refine Ext.drewN ?_ _ | refine Ext.drew ?_ | refine Ext.set ?_ (Nat.le_refl _) _)
              · exact (hset.out (nth L3 k)).ext ⟨rfl, rfl, rfl, Nat.le_refl _, fun _ _ => rfl⟩
            case measure => simp [intOf]; omega
        · obtain rfl : n = t := by omega
          go_wp2
          go_roundw
          case rel => exact ⟨k + 1, L3, by omega, by go_num, hE3, hO3, hj3.out.1, fun j h => by
            by_cases e : j = k
            · subst e; exact hj3.out.2.2
            · exact hj3.out.2.1 j (by omega)⟩
          case measure => simp [intOf]; omega
    · obtain rfl : m = k := by omega
      go_wp2
      go_ret
      have e : L = mkRow m (appF n x v) := mkRow_eq hj.out.1 hj.out.2
      subst e
      refine ⟨some ⟨w.heap.size, 0, none⟩, m, ?_, by rw [mkRow_len]; exact hO, hE⟩
      rw [mkRow_len]; rfl
set_option maxHeartbeats 1000000 in
theorem l02Apply_c (a b : Option Addr) (ca cb m n : Nat) (x : List (List Int)) (v : List Int) (w : World) (hx : MatAt w a x) (hv : IntsAt w b v) (rx : Rect x m n) (hl : v.length = n) (hn0 : 0 < n) (hm0 : 0 < m) (hm : m ≤ 1000)
    (hbx : EBd 4000000000000000000 x) (hbv : VBd 4000000000000000000 v) :
    Calls Try.prog 94 #[.slice a x.length ca, .slice b v.length cb] w (GivesI w (mkRow m (appF n x v))) := by
  obtain ⟨p, o, rfl⟩ := hx.base (by rw [rx.1]; exact hm0)
  obtain ⟨p2, o2, rfl⟩ := hv.base (by rw [hl]; exact hn0)
  have hvl := hv.len
  rw [rx.1, hl]
  rw [hl] at hvl
  have HX := Lib.hid (And.intro hx (And.intro rx (And.intro hv (And.intro hl (And.intro hbx hbv)))))
  clear hx rx hv hl hbx hbv
  have hO0 := OwnI.empty w w.heap.size (Nat.le_refl _)
  have hE0 := (Ext.refl w).alloc (.cells #[] 2)
  go_enter Try.func94, Try.ntmps94
  go_wp2
  go_loopw [5, 6] (fun s i wr => ∃ k : Nat, k ≤ m ∧ i = .int .i64 k ∧ Ext w wr ∧ OwnI wr w.heap.size s (mkRow k (appF n x v))) (fun _ i _ => m - (intOf i).toNat)
  case atStart => exact ⟨0, Nat.zero_le _, rfl, hE0, hO0⟩
  case round =>
    obtain ⟨k, hk, rfl, hE, hO⟩ := hrel
    clear hO0 hE0
    obtain ⟨wo, rfl⟩ : ∃ wo, wo = wr := ⟨_, rfl⟩
    by_cases hlt : k < m
    · obtain ⟨q, o3, c, d1, d2, _⟩ := HX.out.1.hdr HX.out.2.1 hlt hn0
      replace d1 := hE.cell d1
      have D1 := Lib.hid d1
      have D2 := Lib.hid d2
      clear d1 d2
      go_wp2
      go_loopw [7, 8] (fun s i wr => ∃ t : Nat, t ≤ n ∧ i = .int .i64 t ∧ s = .int .i64 (mx t fun t => times (ent x k t) (nth v t)) ∧ Qt wo wr) (fun _ i _ => n - (intOf i).toNat)
      case atStart => exact ⟨0, Nat.zero_le _, rfl, rfl, Qt.refl _⟩
      case round =>
        obtain ⟨t, ht, rfl, rfl, hq⟩ := hrel
        by_cases hltn : t < n
        · have d1 := hq.ext.cell D1.out
          have d2 := hq.ext.cell (hE.cell (D2.out t hltn))
          have e2 := hq.ext.cell (hE.cell (HX.out.2.2.1.cell (i := t) (by rw [HX.out.2.2.2.1]; exact hltn)))
          have hbe := Lib.hid (HX.out.2.2.2.2.1 k t)
          have hbf := Lib.hid (HX.out.2.2.2.2.2 t)
          have hstep : mx (t + 1) (fun t => times (ent x k t) (nth v t)) = max (mx t fun t => times (ent x k t) (nth v t)) (times (ent x k t) (nth v t)) := rfl
          generalize hS : mx t (fun t => times (ent x k t) (nth v t)) = S at hstep ⊢
          have hS := Lib.hid hS
          generalize hT : times (ent x k t) (nth v t) = u at hstep
          have hT := Lib.hid hT
          have hstep := Lib.hid hstep
          by_cases hmx : S < u
          · have hm : max S u = u := by omega
            rw [hm] at hstep
            clear hm
            go_wp2_with fail
            go_big_quiet ((go_at_call 97; exact quiet_pure (l01Times_cT hT.out _ hbe.out hbf.out)))
            go_wp2
            go_roundw
            case rel => exact ⟨t + 1, by omega, by go_num, by rw [hstep.out], hq.drewN _⟩
            case measure => simp [intOf]; omega
          · have hm : max S u = S := by omega
            rw [hm] at hstep
            clear hm
            go_wp2_with fail
            go_big_quiet ((go_at_call 97; exact quiet_pure (l01Times_cT hT.out _ hbe.out hbf.out)))
            go_wp2
            go_roundw
            case rel => exact ⟨t + 1, by omega, by go_num, by rw [hstep.out], hq.drewN _⟩
            case measure => simp [intOf]; omega
        · obtain rfl : n = t := by omega
          have hl : (mkRow k (appF n x v)).length ≤ 1000000000 := by rw [mkRow_len]; omega
          have hE2 := hE.qt hq
          have hO2 := hO.ext hq.ext
          have e : mkRow (k + 1) (appF n x v) = mkRow k (appF n x v) ++ [mx n fun t => times (ent x k t) (nth v t)] := mkRow_succ _ _
          have e := Lib.hid e
          generalize mx n (fun t => times (ent x k t) (nth v t)) = S at *
          have hs := (hE2.alloc (.cells #[.int .i64 S] 2)).size
          go_wp2_with (at_builtin; refine app_i rfl _ _ rfl w.heap.size _ _ rfl (hO2.ext ((Ext.refl wr).alloc _)) ⟨wr.heap.size, 0, none⟩ 1 S rfl (cell_one _ _ _) hl hs ?_)
          intro v' w' hO4 hg
          go_wp2
          go_roundw
          case rel => exact ⟨k + 1, by omega, by go_num, grown_i hE2 hO2 (Nat.le_refl _) hg, by rw [e.out]; exact hO4⟩
          case measure => simp [intOf]; omega
    · obtain rfl : m = k := by omega
      go_wp2
      go_ret
      obtain ⟨a', cap', rfl, _⟩ := hO.at
      exact ⟨a', cap', rfl, hO, hE⟩

set_option maxHeartbeats 2000000 in
theorem l02Multiply_c (a b : Option Addr) (ca cb m K n : Nat) (x y : List (List Int)) (w : World) (hx : MatAt w a x) (hy : MatAt w b y) (rx : Rect x m K) (ry : Rect y K n) (h0 : 0 < m) (hK : 0 < K) (hn0 : 0 < n) (hm : m ≤ 100) (hn : n ≤ 100)
    (hbx : EBd 4000000000000000000 x) (hby : EBd 4000000000000000000 y) :
    Calls Try.prog 96 #[.slice a x.length ca, .slice b y.length cb] w (GivesM w (mkMat m n (mulE K x y))) := by
  obtain ⟨p, o, rfl⟩ := hx.base (by rw [rx.1]; exact h0)
  obtain ⟨p', o', rfl⟩ := hy.base (by rw [ry.1]; exact hK)
  obtain ⟨q0, oq, c0, z1, _, _⟩ := hy.hdr ry hK hn0
  rw [Nat.add_zero] at z1
  have hxl := hx.len
  have hyl := hy.len
  rw [rx.1] at hxl ⊢
  rw [ry.1] at hyl ⊢
  have hz : (0 : Int) < (K : Int) := by omega
  have HX := Lib.hid (And.intro hx (And.intro rx (And.intro hy (And.intro ry (And.intro hbx hby)))))
  have Z1 := Lib.hid z1
  clear hx rx hy ry hbx hby
  go_enter Try.func96, Try.ntmps96
  go_wp2_with fail
  refine (l02Bottom_c m n _ (by omega) (by omega)).mono ?_
  rintro e w1 ⟨a', cap, rfl, hO, hE⟩
  obtain ⟨g, A, C, rfl, hM⟩ := hO.open (by rw [mkMat_len]; exact h0)
  rw [mkMat_len]
  clear hO z1
  go_wp2
  go_loopw [6] (fun i wr => ∃ (k : Nat) (M : List (List Int)), k ≤ m ∧ i = .int .i64 k ∧ Ext w wr ∧ Mat wr w.heap.size g cap A C M ∧ Hid (FillD (mulE K x y) (fun _ _ => -1000000000000000) m n (fun i j => i < k) M)) (fun i _ => m - (intOf i).toNat)
  case atStart => exact ⟨0, _, Nat.zero_le _, rfl, hE, hM, FillD.start (rect_mk _ _ _) (fun i j hi hj => mkMat_ent hi hj) (fun i j _ _ => Nat.not_lt_zero _)⟩
  case round =>
    obtain ⟨k, M, hk, rfl, hE2, hM2, hF⟩ := hrel
    clear hE hM
    by_cases hlt : k < m
    · go_wp2
      go_loopw [7] (fun i wr => ∃ (t : Nat) (M : List (List Int)), t ≤ n ∧ i = .int .i64 t ∧ Ext w wr ∧ Mat wr w.heap.size g cap A C M ∧ Hid (FillD (mulE K x y) (fun _ _ => -1000000000000000) m n (fun i j => i < k ∨ (i = k ∧ j < t)) M)) (fun i _ => n - (intOf i).toNat)
      case atStart => exact ⟨0, M, Nat.zero_le _, rfl, hE2, hM2, hF.out.congr fun i j _ _ => by omega⟩
      case round =>
        obtain ⟨t, M3, ht, rfl, hE3, hM3, hF3⟩ := hrel
        clear hE2 hM2
        have z1 := hE3.cell Z1.out
        by_cases hltn : t < n
        · go_wp2
          clear z1
          go_loopw [8] (fun i wr => ∃ (s : Nat) (M : List (List Int)), s ≤ K ∧ i = .int .i64 s ∧ Ext w wr ∧ Mat wr w.heap.size g cap A C M ∧ Hid (FillD (mulE K x y) (fun i j => if i = k ∧ j = t then mx s (fun q => times (ent x k q) (ent y q t)) else -1000000000000000) m n (fun i j => i < k ∨ (i = k ∧ j < t)) M)) (fun i _ => K - (intOf i).toNat)
          case atStart => exact ⟨0, M3, Nat.zero_le _, rfl, hE3, hM3, hF3.out.swap (fun i j _ _ hd => ⟨by simp only [mx]; split <;> rfl, hd⟩) (fun i j _ _ hd => .inl hd)⟩
          case round =>
            obtain ⟨s, M4, hs, rfl, hE4, hM4, hF4⟩ := hrel
            clear hE3 hM3
            by_cases hlts : s < K
            · have hkM : k < M4.length := by rw [hF4.out.1.1]; exact hlt
              have hrk : (row M4 k).length = n := hF4.out.1.2 k hlt
              have c1 := hM4.cell hkM
              obtain ⟨r, hA, hBr, hrs, hce, hfe⟩ := hM4.addr hkM (by rw [hrk]; omega)
              have c2 := hce t (by rw [hrk]; exact hltn)
              have f2 := hfe t
              rw [hrk, hA] at c1
              have he : ent M4 k t = mx s (fun q => times (ent x k q) (ent y q t)) := by
                rw [hF4.out.todo hlt hltn (by omega), if_pos ⟨rfl, rfl⟩]
              rw [he] at c2
              obtain ⟨q, o3, c, d1, d2, _⟩ := HX.out.1.hdr HX.out.2.1 hlt hK
              replace d1 := hE4.cell d1
              replace d2 := hE4.cell (d2 s hlts)
              obtain ⟨q', o3', c', e1, e2, _⟩ := HX.out.2.2.1.hdr HX.out.2.2.2.1 hlts hn0
              replace e1 := hE4.cell e1
              replace e2 := hE4.cell (e2 t hltn)
              have hbe := Lib.hid (HX.out.2.2.2.2.1 k s)
              have hbf := Lib.hid (HX.out.2.2.2.2.2 s t)
              have hstep : mx (s + 1) (fun q => times (ent x k q) (ent y q t)) = max (mx s fun q => times (ent x k q) (ent y q t)) (times (ent x k s) (ent y s t)) := rfl
              have hset := fun z => hM4.set hkM hA t z
              have hset := Lib.hid hset
              have hnext : Hid (FillD (mulE K x y) (fun i j => if i = k ∧ j = t then mx (s + 1) (fun q => times (ent x k q) (ent y q t)) else -1000000000000000) m n (fun i j => i < k ∨ (i = k ∧ j < t)) (M4.set k ((row M4 k).set t (mx (s + 1) fun q => times (ent x k q) (ent y q t))))) := by
                have h := hF4.out.redo (I' := fun i j => if i = k ∧ j = t then mx (s + 1) (fun q => times (ent x k q) (ent y q t)) else -1000000000000000) hlt hltn (by omega) (fun i j hn => by simp only [if_neg hn])
                rw [if_pos ⟨rfl, rfl⟩] at h
                exact h
              generalize hS : mx s (fun q => times (ent x k q) (ent y q t)) = S at hstep c2
              have hS := Lib.hid hS
              generalize hT : times (ent x k s) (ent y s t) = u at hstep
              have hT := Lib.hid hT
              have hstep := Lib.hid hstep
              clear hce hfe hrk he hA hF4
              by_cases hmx : S < u
              · have hm : max S u = u := by omega
                rw [hm] at hstep
                clear hm
                go_wp2_with fail
                refine region_qt_lit 29 (by kernel_rfl) (by kernel_rfl) ?_
                simp only [List.take_succ_cons, List.take_zero, List.drop_succ_cons, List.drop_zero]
                repeat (go_big_quiet_step ((go_at_call 97; exact quiet_pure (l01Times_cT hT.out _ hbe.out hbf.out))))
                refine wpQuiet_nil ?_
                intro _ hw'
                obtain ⟨nq, hw''⟩ := hw'
                subst hw''
                go_wp2
                go_roundw
                case rel =>
                  refine ⟨s + 1, _, by omega, by go_num, ?_, ?_, hnext⟩
                  · repeat (first | exact hE4 | refine Ext.drewN ?_ _ | refine Ext.drew ?_ | refine Ext.set ?_ hBr _)
                  · rw [hstep.out]; exact (hset.out u).ext ⟨rfl, rfl, rfl, Nat.le_refl _, fun _ _ => rfl⟩
                case measure => simp [intOf]; omega
              · have hm : max S u = S := by omega
                rw [hm] at hstep
                clear hm
                go_wp2_with fail
                refine region_qt_lit 29 (by kernel_rfl) (by kernel_rfl) ?_
                simp only [List.take_succ_cons, List.take_zero, List.drop_succ_cons, List.drop_zero]
                repeat (go_big_quiet_step ((go_at_call 97; exact quiet_pure (l01Times_cT hT.out _ hbe.out hbf.out))))
                refine wpQuiet_nil ?_
                intro _ hw'
                obtain ⟨nq, hw''⟩ := hw'
                subst hw''
                go_wp2
                go_roundw
                case rel =>
                  refine ⟨s + 1, _, by omega, by go_num, ?_, ?_, hnext⟩
                  · repeat (first | exact hE4 | refine Ext.drewN ?_ _ | refine Ext.drew ?_ | refine Ext.set ?_ hBr _)
                  · rw [hstep.out]; exact (hset.out S).ext ⟨rfl, rfl, rfl, Nat.le_refl _, fun _ _ => rfl⟩
                case measure => simp [intOf]; omega
            · obtain rfl : K = s := by omega
              go_wp2
              go_roundw
              case rel => exact ⟨t + 1, M4, by omega, by go_num, hE4, hM4, hF4.out.swap (fun i j _ _ hd => ⟨by rw [if_neg (by omega)], by omega⟩) (fun i j _ _ hd => by
                by_cases e : i < k ∨ (i = k ∧ j < t)
                · exact .inl e
                · refine .inr ⟨?_, e⟩
                  obtain ⟨rfl, rfl⟩ : i = k ∧ j = t := by omega
                  rw [if_pos ⟨rfl, rfl⟩]; rfl)⟩
              case measure => simp [intOf]; omega
        · obtain rfl : n = t := by omega
          go_wp2
          go_roundw
          case rel => exact ⟨k + 1, M3, by omega, by go_num, hE3, hM3, hF3.out.congr fun i j _ _ => by omega⟩
          case measure => simp [intOf]; omega
    · obtain rfl : m = k := by omega
      have e := hF.out.done fun i j hi hj => hi
      go_wp2
      go_ret
      subst e
      exact hM2.give hE2 (mkMat_len _ _ _) rfl
end Go.Proofs.Ytokhkpbebimohaa

/- Contracts of paths and cycles. Conditions: the forms of the matrices, the lengths of the lists. -/
namespace Go.Proofs.Ytokhkpbebimohaa
set_option linter.unusedVariables false
set_option linter.unusedSimpArgs false
open Go.RowKit

theorem IntsAt.take {w : World} {a : Option Addr} {xs : List Int} (h : IntsAt w a xs) (k : Nat) (hk : k ≤ xs.length) : IntsAt w a (xs.take k) := by
  have hl : (xs.take k).length = k := by simp; omega
  refine ⟨by have := h.1; omega, fun hn => ?_⟩
  have hne : xs ≠ [] := by rintro rfl; simp at hn
  obtain ⟨b, o, e, hc⟩ := h.2 hne
  exact ⟨b, o, e, fun i hi => by rw [nth_take (by omega)]; exact hc i (by omega)⟩
def has (xs : List Int) (v : Int) : Bool := xs.contains v
theorem has_yes {xs : List Int} {v : Int} {k : Nat} (h : k < xs.length) (e : nth xs k = v) : has xs v = true := has_iff.2 ⟨k, h, e⟩
theorem has_not {xs : List Int} {v : Int} (h : ∀ i, i < xs.length → nth xs i ≠ v) : has xs v = false := has_no h
def inAll (lo hi : Int) (xs : List Int) : Bool := xs.all fun v => inR v lo hi
theorem nodes_in (n : Nat) (xs : List Int) : nodes n xs = inAll 0 ((n : Int) - 1) xs := rfl
theorem inAll_iff {lo hi : Int} {xs : List Int} : inAll lo hi xs = true ↔ ∀ i, i < xs.length → inR (nth xs i) lo hi = true := by
  unfold inAll; rw [List.all_eq_true]
  constructor
  · intro h i hi; rw [nth_of_lt hi]; exact h _ (List.getElem_mem hi)
  · intro h x hx
    obtain ⟨i, hi, rfl⟩ := List.getElem_of_mem hx
    have := h i hi; rwa [nth_of_lt hi] at this
theorem inAll_no {lo hi : Int} {xs : List Int} {i : Nat} (hi' : i < xs.length) (h : inR (nth xs i) lo hi = false) : inAll lo hi xs = false := by
  cases e : inAll lo hi xs
  · rfl
  · have := inAll_iff.1 e i hi'; rw [h] at this; cases this

theorem isNode_c (a : Option Addr) (n cap : Nat) (v : Int) (w : World) (hn : n ≤ 9223372036854775807) :
    Calls Try.prog 68 #[.slice a n cap, .int .i64 v] w fun e w' => e = .returned (.bool (inR v 0 ((n : Int) - 1))) ∧ w = w' := by
  go_enter Try.func68, Try.ntmps68
  go_wp2_with fail
  refine (within_c _ _ _ _).mono ?_
  rintro e w' ⟨rfl, rfl⟩
  go_wp2
  go_ret
  exact ⟨rfl, rfl⟩
theorem l03Node_c (a : Option Addr) (n cap : Nat) (v : Int) (w : World) (hn : n ≤ 9223372036854775807) :
    Calls Try.prog 70 #[.slice a n cap, .int .i64 v] w fun e w' => e = .returned (.bool (inR v 0 ((n : Int) - 1))) ∧ w = w' := by
  go_enter Try.func70, Try.ntmps70
  go_wp2_with fail
  refine (l01In_c _ _ _ _).mono ?_
  rintro e w' ⟨rfl, rfl⟩
  go_wp2
  go_ret
  exact ⟨rfl, rfl⟩

theorem allWithin_c (a : Option Addr) (cap : Nat) (xs : List Int) (lo hi : Int) (w : World) (h : IntsAt w a xs) :
    Calls Try.prog 99 #[.slice a xs.length cap, .int .i64 lo, .int .i64 hi] w fun e w' => e = .returned (.bool (inAll lo hi xs)) ∧ w = w' := by
  have hlen := h.len
  go_enter Try.func99, Try.ntmps99
  go_wp2
  go_loop [11] (fun i => ∃ k : Nat, k ≤ xs.length ∧ i = .int .i64 k ∧ Hid (∀ j, j < k → inR (nth xs j) lo hi = true)) (fun i => xs.length - (intOf i).toNat)
  case atStart => exact ⟨0, Nat.zero_le _, rfl, fun j hj => absurd hj (Nat.not_lt_zero _)⟩
  case round =>
    obtain ⟨k, hk, rfl, hj⟩ := hrel
    by_cases hlt : k < xs.length
    · obtain ⟨b, o, rfl, hc⟩ := h.at hlt
      have c1 := hc k hlt
      clear hc
      cases hv : inR (nth xs k) lo hi
      · have Hv := Lib.hid hv
        clear hv
        go_wp2_with fail
        refine (asB Hv.out (within_c _ _ _ _)).mono ?_
        rintro e w' ⟨rfl, rfl⟩
        go_wp2
        go_ret
        exact ⟨ret_bool (by rw [inAll_no hlt Hv.out]), rfl⟩
      · have Hv := Lib.hid hv
        clear hv
        go_wp2_with fail
        refine (asB Hv.out (within_c _ _ _ _)).mono ?_
        rintro e w' ⟨rfl, rfl⟩
        go_wp2
        go_round
        case rel => exact ⟨k + 1, by omega, by go_num, fun j h => by
          by_cases e : j = k
          · subst e; exact Hv.out
          · exact hj.out j (by omega)⟩
        case measure => simp [intOf]; omega
    · go_wp2
      go_ret
      exact ⟨ret_bool (by rw [inAll_iff.2 fun i hi => hj.out i (by omega)]), rfl⟩
theorem l01Within_c (a : Option Addr) (cap : Nat) (xs : List Int) (lo hi : Int) (w : World) (h : IntsAt w a xs) :
    Calls Try.prog 141 #[.slice a xs.length cap, .int .i64 (xs.length : Int), .int .i64 lo, .int .i64 hi] w fun e w' => e = .returned (.bool (inAll lo hi xs)) ∧ w = w' := by
  have hlen := h.len
  go_enter Try.func141, Try.ntmps141
  go_wp2
  go_loop [9] (fun i => ∃ k : Nat, k ≤ xs.length ∧ i = .int .i64 k ∧ Hid (∀ j, j < k → inR (nth xs j) lo hi = true)) (fun i => xs.length - (intOf i).toNat)
  case atStart => exact ⟨0, Nat.zero_le _, rfl, fun j hj => absurd hj (Nat.not_lt_zero _)⟩
  case round =>
    obtain ⟨k, hk, rfl, hj⟩ := hrel
    by_cases hlt : k < xs.length
    · obtain ⟨b, o, rfl, hc⟩ := h.at hlt
      have c1 := hc k hlt
      clear hc
      cases hv : inR (nth xs k) lo hi
      · have Hv := Lib.hid hv
        clear hv
        go_wp2_with fail
        refine (asB Hv.out (l01In_c _ _ _ _)).mono ?_
        rintro e w' ⟨rfl, rfl⟩
        go_wp2
        go_ret
        exact ⟨ret_bool (by rw [inAll_no hlt Hv.out]), rfl⟩
      · have Hv := Lib.hid hv
        clear hv
        go_wp2_with fail
        refine (asB Hv.out (l01In_c _ _ _ _)).mono ?_
        rintro e w' ⟨rfl, rfl⟩
        go_wp2
        go_round
        case rel => exact ⟨k + 1, by omega, by go_num, fun j h => by
          by_cases e : j = k
          · subst e; exact Hv.out
          · exact hj.out j (by omega)⟩
        case measure => simp [intOf]; omega
    · go_wp2
      go_ret
      exact ⟨ret_bool (by rw [inAll_iff.2 fun i hi => hj.out i (by omega)]), rfl⟩
theorem l03Nodes_c (a b : Option Addr) (n ca cb : Nat) (xs : List Int) (w : World) (h : IntsAt w b xs) (hn : n ≤ 9223372036854775807) :
    Calls Try.prog 101 #[.slice a n ca, .slice b xs.length cb] w fun e w' => e = .returned (.bool (nodes n xs)) ∧ w = w' := by
  have hlen := h.len
  go_enter Try.func101, Try.ntmps101
  go_wp2_with fail
  refine (l01Within_c _ _ _ _ _ _ h).mono ?_
  rintro e w' ⟨rfl, rfl⟩
  go_wp2
  go_ret
  exact ⟨rfl, rfl⟩

theorem slIndex_c (a : Option Addr) (cap : Nat) (xs : List Int) (v : Int) (w : World) (h : IntsAt w a xs) :
    Calls Try.prog 166 #[.slice a xs.length cap, .int .i64 v] w fun e w' => (∃ r : Int, e = .returned (.int .i64 r) ∧ decide (0 ≤ r) = has xs v) ∧ w = w' := by
  have hlen := h.len
  go_enter Try.func166, Try.ntmps166
  go_wp2
  go_loop [8] (fun i => ∃ k : Nat, k ≤ xs.length ∧ i = .int .i64 k ∧ Hid (∀ j, j < k → nth xs j ≠ v)) (fun i => xs.length - (intOf i).toNat)
  case atStart => exact ⟨0, Nat.zero_le _, rfl, fun j hj => absurd hj (Nat.not_lt_zero _)⟩
  case round =>
    obtain ⟨k, hk, rfl, hj⟩ := hrel
    by_cases hlt : k < xs.length
    · obtain ⟨b, o, rfl, hc⟩ := h.at hlt
      have c1 := hc k hlt
      clear hc
      by_cases hv : v = nth xs k
      · have hb : (v == nth xs k) = true := by simpa using hv
        have Hv := Lib.hid hv
        clear hv
        go_wp2
        go_ret
        exact ⟨⟨_, rfl, by rw [has_yes hlt Hv.out.symm]; simp⟩, rfl⟩
      · have hb : (v == nth xs k) = false := by simpa using hv
        have Hv := Lib.hid hv
        clear hv
        go_wp2
        go_round
        case rel => exact ⟨k + 1, by omega, by go_num, fun j h => by
          by_cases e : j = k
          · subst e; exact fun e => Hv.out e.symm
          · exact hj.out j (by omega)⟩
        case measure => simp [intOf]; omega
    · go_wp2
      go_ret
      exact ⟨⟨_, rfl, by rw [has_not fun i hi => hj.out i (by omega)]; rfl⟩, rfl⟩
theorem slContains_c (a : Option Addr) (cap : Nat) (xs : List Int) (v : Int) (w : World) (h : IntsAt w a xs) :
    Calls Try.prog 148 #[.slice a xs.length cap, .int .i64 v] w fun e w' => e = .returned (.bool (has xs v)) ∧ w = w' := by
  have hlen := h.len
  go_enter Try.func148, Try.ntmps148
  go_wp2_with fail
  refine (slIndex_c _ _ _ _ _ h).mono ?_
  rintro e w' ⟨⟨r, rfl, hr⟩, rfl⟩
  have Hr := Lib.hid hr
  clear hr
  go_wp2
  go_ret
  exact ⟨ret_bool (by rw [← Hr.out]), rfl⟩
theorem l01Has_c (a : Option Addr) (cap : Nat) (xs : List Int) (v : Int) (w : World) (h : IntsAt w a xs) :
    Calls Try.prog 164 #[.slice a xs.length cap, .int .i64 v] w fun e w' => e = .returned (.bool (has xs v)) ∧ w = w' := by
  have hlen := h.len
  go_enter Try.func164, Try.ntmps164
  go_wp2
  go_loop [5] (fun i => ∃ k : Nat, k ≤ xs.length ∧ i = .int .i64 k ∧ Hid (∀ j, j < k → nth xs j ≠ v)) (fun i => xs.length - (intOf i).toNat)
  case atStart => exact ⟨0, Nat.zero_le _, rfl, fun j hj => absurd hj (Nat.not_lt_zero _)⟩
  case round =>
    obtain ⟨k, hk, rfl, hj⟩ := hrel
    by_cases hlt : k < xs.length
    · obtain ⟨b, o, rfl, hc⟩ := h.at hlt
      have c1 := hc k hlt
      clear hc
      by_cases hv : nth xs k = v
      · have hb : (nth xs k == v) = true := by simpa using hv
        have Hv := Lib.hid hv
        clear hv
        go_wp2
        go_ret
        exact ⟨ret_bool (by rw [has_yes hlt Hv.out]), rfl⟩
      · have hb : (nth xs k == v) = false := by simpa using hv
        have Hv := Lib.hid hv
        clear hv
        go_wp2
        go_round
        case rel => exact ⟨k + 1, by omega, by go_num, fun j h => by
          by_cases e : j = k
          · subst e; exact Hv.out
          · exact hj.out j (by omega)⟩
        case measure => simp [intOf]; omega
    · go_wp2
      go_ret
      exact ⟨ret_bool (by rw [has_not fun i hi => hj.out i (by omega)]), rfl⟩

/-- a node, as a natural number -/
theorem node_nat {n : Nat} {v : Int} (h : inR v 0 ((n : Int) - 1) = true) : ∃ u : Nat, v = (u : Int) ∧ u < n ∧ v.toNat = u := by
  have := inR_iff.1 h
  exact ⟨v.toNat, by omega, by omega, rfl⟩

set_option maxHeartbeats 1000000 in
theorem cycleWeight_c {B : Nat} (a b : Option Addr) (ca cb : Nat) (x : List (List Int)) (xs : List Int) (w : World) (hx : MatAt w a x) (hs : isSq x = true) (hy : OwnI w B (.slice b xs.length cb) xs) (hl : xs.length ≤ 1048576) :
    Calls Try.prog 111 #[.slice a x.length ca, .slice b xs.length cb] w fun e w' => e = .returned (.tuple #[.int .i64 ((cycleO x xs).getD 0), .bool (cycleO x xs).isSome]) ∧ w = w' := by
  obtain ⟨rx, hn1, hn2⟩ := isSq_rect hs
  rcases hy.form with ⟨h1, h2⟩ | ⟨g, cap, h1, hBg, hg, hle, hmx, -, -⟩
  · subst h2
    simp only [Value.slice.injEq] at h1
    obtain ⟨rfl, _, rfl⟩ := h1
    have e : cycleO x [] = none := rfl
    rw [e]; clear e
    go_enter Try.func111, Try.ntmps111
    go_wp2
    go_ret2
    exact ⟨rfl, rfl⟩
  simp only [Value.slice.injEq, Option.some.injEq, Addr.mk.injEq, and_true, true_and] at h1
  obtain ⟨rfl, rfl⟩ := h1
  have hyi := hy.ints
  by_cases h0 : xs.length = 0
  · have e : cycleO x xs = none := by unfold cycleO; rw [if_pos h0]
    rw [e]; clear e
    rw [h0]
    go_enter Try.func111, Try.ntmps111
    go_wp2
    go_ret2
    exact ⟨rfl, rfl⟩
  have hpos : 0 < xs.length := by omega
  have hb0 : before xs 0 = nth xs (xs.length - 1) := by unfold before; rw [if_pos rfl]
  have cl := hyi.cell (i := xs.length - 1) (by omega)
  rw [← hb0, Nat.zero_add] at cl
  have el : ((xs.length : Int) - 1) = ((xs.length - 1 : Nat) : Int) := by omega
  have eq1 : ((xs.length : Int) == 0) = false := by rw [beq_eq_false_iff_ne]; omega
  have HY := Lib.hid (And.intro hyi (And.intro hx (And.intro rx hs)))
  obtain ⟨p, o, rfl⟩ := hx.base (by omega)
  have hcO : cycleO x xs = cycO x xs xs.length := by unfold cycleO; rw [if_neg h0]
  have HcO := Lib.hid hcO
  clear hcO hyi hy hb0 rx hx hs
  go_enter Try.func111, Try.ntmps111
  go_wp2
  clear el cl eq1
  go_loop [6, 7, 21] (fun s b i => ∃ (k : Nat) (t : Int), k ≤ xs.length ∧ i = .int .i64 k ∧ s = .int .i64 t ∧ b = .int .i64 (if k = 0 then before xs 0 else nth xs (k - 1)) ∧ Hid (cycO x xs k = some t)) (fun _ _ i => xs.length - (intOf i).toNat)
  case atStart => exact ⟨0, 0, Nat.zero_le _, rfl, rfl, by rw [if_pos rfl], rfl⟩
  case round =>
    obtain ⟨k, t, hk, rfl, rfl, rfl, hj⟩ := hrel
    by_cases hlt : k < xs.length
    · have eb : (if k = 0 then before xs 0 else nth xs (k - 1)) = before xs k := by
        unfold before; by_cases e : k = 0
        · subst e; simp
        · rw [if_neg e, if_neg e]
      rw [eb]; clear eb
      have c1 := HY.out.1.cell hlt
      rw [Nat.zero_add] at c1
      have hxl := HY.out.2.1.len
      have htk : (xs.take k).length = k := by simp; omega
      have hti := HY.out.1.take k (by omega)
      cases s1 : inR (nth xs k) 0 ((x.length : Int) - 1)
      · have hno : cycO x xs xs.length = none := cycO_not hlt (by unfold stepOk; rw [s1]; simp)
        have Hno := Lib.hid hno
        have S1 := Lib.hid s1
        clear hno s1 hti htk
        go_wp2_with fail
        refine (asB S1.out (isNode_c _ _ _ _ _ hxl)).mono ?_
        rintro e w' ⟨rfl, rfl⟩
        go_wp2
        go_ret2
        rw [HcO.out, Hno.out]; exact ⟨rfl, rfl⟩
      cases s2 : inR (before xs k) 0 ((x.length : Int) - 1)
      · have hno : cycO x xs xs.length = none := cycO_not hlt (by unfold stepOk; rw [s2]; simp)
        have Hno := Lib.hid hno
        have S1 := Lib.hid s1
        have S2 := Lib.hid s2
        clear hno s1 s2 hti htk
        go_wp2_with fail
        refine (asB S1.out (isNode_c _ _ _ _ _ hxl)).mono ?_
        rintro e w' ⟨rfl, rfl⟩
        go_wp2_with fail
        refine (asB S2.out (isNode_c _ _ _ _ _ hxl)).mono ?_
        rintro e w' ⟨rfl, rfl⟩
        go_wp2
        go_ret2
        rw [HcO.out, Hno.out]; exact ⟨rfl, rfl⟩
      have hCo := slContains_c (some ⟨g, 0, none⟩) cb (xs.take k) (nth xs k) w hti
      rw [htk] at hCo
      cases s3 : has (xs.take k) (nth xs k)
      · obtain ⟨u, hu, hun, hut⟩ := node_nat s1
        obtain ⟨v, hv, hvn, hvt⟩ := node_nat s2
        obtain ⟨q, o2, c, d1, dd, _⟩ := HY.out.2.1.hdr HY.out.2.2.1 hun (Nat.lt_of_le_of_lt (Nat.zero_le _) hvn)
        have d2 := dd v hvn
        clear dd
        by_cases s4 : ent x u v = -1000000000000000
        · have hno : cycO x xs xs.length = none := cycO_not hlt (by unfold stepOk; rw [hut, hvt, s4]; simp)
          have Hno := Lib.hid hno
          have S1 := Lib.hid s1
          have S2 := Lib.hid s2
          have HC := Lib.hid (asB (c := false) s3 hCo)
          rw [s4] at d2
          rw [hu] at c1 S1 HC
          rw [hv] at S2 ⊢
          clear hno s1 s2 s3 s4 hti htk hCo
          go_wp2_with fail
          refine (asB S1.out (isNode_c _ _ _ _ _ hxl)).mono ?_
          rintro e w' ⟨rfl, rfl⟩
          go_wp2_with fail
          refine (asB S2.out (isNode_c _ _ _ _ _ hxl)).mono ?_
          rintro e w' ⟨rfl, rfl⟩
          go_wp2_with fail
          refine HC.out.mono ?_
          rintro e w' ⟨rfl, rfl⟩
          go_wp2
          go_ret2
          rw [HcO.out, Hno.out]; exact ⟨rfl, rfl⟩
        · have hs4 : (ent x u v == -1000000000000000) = false := by simpa using s4
          have hok : stepOk x xs k = true := by unfold stepOk; rw [s1, s2, show (xs.take k).contains (nth xs k) = false from s3, hut, hvt, hs4]; rfl
          have hnext : cycO x xs (k + 1) = some (t + ent x u v) := by
            simp only [cycO]; rw [hj.out]; simp only [hok, if_true, hut, hvt]
          have hbt := cycO_bd HY.out.2.2.2 hj.out
          have hbe := isSq_ebd1 HY.out.2.2.2 s4
          have hbk : before xs (k + 1) = nth xs k := by unfold before; rw [if_neg (by omega)]; rfl
          have Hn := Lib.hid hnext
          have S1 := Lib.hid s1
          have S2 := Lib.hid s2
          have HC := Lib.hid (asB (c := false) s3 hCo)
          have Hu := Lib.hid hu
          rw [hu] at c1 S1 HC
          rw [hv] at S2 ⊢
          clear hnext s1 s2 s3 s4 hti htk hCo hok hbk hu hv hj
          have hbt2 : -1048576000000 ≤ t ∧ t ≤ 1048576000000 := by omega
          clear hbt
          generalize ent x u v = z at d2 hbe Hn
          go_wp2_with fail
          refine (asB S1.out (isNode_c _ _ _ _ _ hxl)).mono ?_
          rintro e w' ⟨rfl, rfl⟩
          go_wp2_with fail
          refine (asB S2.out (isNode_c _ _ _ _ _ hxl)).mono ?_
          rintro e w' ⟨rfl, rfl⟩
          go_wp2_with fail
          refine HC.out.mono ?_
          rintro e w' ⟨rfl, rfl⟩
          go_wp2
          go_round
          case rel => exact ⟨k + 1, _, by omega, by go_num, rfl, by rw [if_neg (by omega), Nat.add_sub_cancel, Hu.out], Hn⟩
          case measure => simp [intOf]; omega
      · have hno : cycO x xs xs.length = none := cycO_not hlt (by unfold stepOk; rw [show (xs.take k).contains (nth xs k) = true from s3]; simp)
        have Hno := Lib.hid hno
        have S1 := Lib.hid s1
        have S2 := Lib.hid s2
        have HC := Lib.hid (asB (c := true) s3 hCo)
        clear hno s1 s2 s3 hti htk hCo
        go_wp2_with fail
        refine (asB S1.out (isNode_c _ _ _ _ _ hxl)).mono ?_
        rintro e w' ⟨rfl, rfl⟩
        go_wp2_with fail
        refine (asB S2.out (isNode_c _ _ _ _ _ hxl)).mono ?_
        rintro e w' ⟨rfl, rfl⟩
        go_wp2_with fail
        refine HC.out.mono ?_
        rintro e w' ⟨rfl, rfl⟩
        go_wp2
        go_ret2
        rw [HcO.out, Hno.out]; exact ⟨rfl, rfl⟩
    · obtain rfl : k = xs.length := by omega
      go_wp2
      go_ret2
      rw [HcO.out, hj.out]; exact ⟨rfl, rfl⟩
end Go.Proofs.Ytokhkpbebimohaa
