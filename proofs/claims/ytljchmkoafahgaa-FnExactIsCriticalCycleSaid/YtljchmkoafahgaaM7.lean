/- Contracts of the reference's functions that copy a matrix and write into the copy. Conditions: the forms of the matrices. -/
import Derived.Test.YtljchmkoafahgaaM6
import Derived.Test.YtljchmkoafahgaaP4
namespace Go.Proofs.Ytljchmkoafahgaa
set_option linter.unusedVariables false
open Go.RowKit

/-- a slice of slices that is not empty, opened -/
theorem OwnM.open {w : World} {B n cap : Nat} {a : Option Addr} {m : List (List Int)} (h : OwnM w B (.slice a n cap) m) (h0 : 0 < m.length) : ∃ g A C, a = some ⟨g, 0, none⟩ ∧ Mat w B g cap A C m := by
  rcases h with ⟨_, h2⟩ | ⟨g, cap', A, C, h1, h2⟩
  · rw [h2] at h0; simp at h0
  · simp only [Value.slice.injEq] at h1
    obtain ⟨rfl, _, rfl⟩ := h1
    exact ⟨g, A, C, rfl, h2⟩
theorem Mat.give {w wr : World} {g cap : Nat} {A : Nat → Option Addr} {C : Nat → Nat} {m : List (List Int)} {n : Nat} {e : Ending} (h : Mat wr w.heap.size g cap A C m) (hE : Ext w wr) (hn : m.length = n) (he : e = .returned (.slice (some ⟨g, 0, none⟩) n cap)) : GivesM w m e wr :=
  ⟨_, cap, by rw [hn]; exact he, .inr ⟨g, cap, A, C, rfl, h⟩, hE⟩

set_option maxHeartbeats 400000 in
theorem l02Own_c (a : Option Addr) (cap : Nat) (m : List (List Int)) (w : World) (h : MatAt w a m) (hl : m.length ≤ 1000000) (hr : ∀ i, i < m.length → (row m i).length ≤ 1000000) :
    Calls Try.prog 74 #[.slice a m.length cap] w (GivesM w m) := by
  have hO0 := OwnM.empty w w.heap.size (Nat.le_refl _)
  have hE0 := (Ext.refl w).alloc (.cells #[] 32)
  go_enter Try.func74, Try.ntmps74
  go_wp2
  go_loopw [3, 4] (fun s i wr => ∃ (k : Nat), k ≤ m.length ∧ i = .int .i64 k ∧ Ext w wr ∧ OwnM wr w.heap.size s (m.take k)) (fun _ i _ => m.length - (intOf i).toNat)
  case atStart => exact ⟨0, Nat.zero_le _, rfl, hE0, hO0⟩
  case round =>
    obtain ⟨k, hk, rfl, hE, hO⟩ := hrel
    clear hO0 hE0
    by_cases hlt : k < m.length
    · obtain ⟨b, o, rfl, hc⟩ := (h.mono hE).at hlt
      obtain ⟨ai, ci, c1, hx, hn⟩ := hc k hlt
      clear hc
      go_wp2_with fail
      refine (l01Own_c _ _ _ _ hx hn (by have := hr k hlt; omega)).mono ?_
      rintro e w2 ⟨ar, cr, rfl, hO2, hE2⟩
      have hl2 : (m.take k).length ≤ 1000000000 := by simp; omega
      have hE3 := hE2.alloc (.cells #[.slice ar (row m k).length cr] 32)
      go_wp2_with (at_builtin; refine app_m rfl _ _ rfl w.heap.size _ _ rfl hO hE3 ⟨w2.heap.size, 0, none⟩ 1 ar cr (row m k) rfl (cell_one _ _ _) (hO2.ext ((Ext.refl w2).alloc _)) hl2 hE.size ?_)
      intro v' w' hO4 hg
      go_wp2
      go_roundw
      case rel => exact ⟨k + 1, by omega, by go_num, grown_m (hE.trans hE2) (hO.ext hE2) (Nat.le_refl _) hg, by rw [List.take_succ_eq_append_getElem hlt, ← row_of_lt hlt]; exact hO4⟩
      case measure => simp [intOf]; omega
    · obtain rfl : k = m.length := by omega
      go_wp2
      go_ret
      rw [List.take_length] at hO
      obtain ⟨a', cap', rfl, _⟩ := hO.at
      exact ⟨a', cap', rfl, hO, hE⟩

set_option maxHeartbeats 1000000 in
theorem l02Add_c (a b : Option Addr) (ca cb m n : Nat) (x y : List (List Int)) (w : World) (hx : MatAt w a x) (hy : MatAt w b y) (rx : Rect x m n) (ry : Rect y m n) (h0 : 0 < m) (hn0 : 0 < n) (hm : m ≤ 1000) (hn : n ≤ 1000) :
    Calls Try.prog 106 #[.slice a x.length ca, .slice b y.length cb] w (GivesM w (mkMat m n (addE x y))) := by
  have HR := Lib.hid (And.intro rx ry)
  clear rx ry
  go_enter Try.func106, Try.ntmps106
  go_wp2_with fail
  refine (l02Own_c a ca x _ hx (by rw [HR.out.1.1]; omega) (fun i hi => by rw [HR.out.1.2 i (by rw [← HR.out.1.1]; exact hi)]; omega)).mono ?_
  rintro e w1 ⟨a', cap, rfl, hO, hE⟩
  obtain ⟨g, A, C, rfl, hM⟩ := hO.open (by rw [HR.out.1.1]; exact h0)
  rw [HR.out.1.1, HR.out.2.1]
  clear hx hO
  go_wp2
  go_loopw [6] (fun i wr => ∃ (k : Nat) (M : List (List Int)), k ≤ m ∧ i = .int .i64 k ∧ Ext w wr ∧ Mat wr w.heap.size g cap A C M ∧ Hid (FillD (addE x y) (ent x) m n (fun i j => i < k) M)) (fun i _ => m - (intOf i).toNat)
  case atStart => exact ⟨0, x, Nat.zero_le _, rfl, hE, hM, FillD.start HR.out.1 (fun i j _ _ => rfl) (fun i j _ _ => Nat.not_lt_zero _)⟩
  case round =>
    obtain ⟨k, M, hk, rfl, hE2, hM2, hF⟩ := hrel
    clear hE hM
    by_cases hlt : k < m
    · go_wp2
      go_loopw [7] (fun i wr => ∃ (t : Nat) (M : List (List Int)), t ≤ n ∧ i = .int .i64 t ∧ Ext w wr ∧ Mat wr w.heap.size g cap A C M ∧ Hid (FillD (addE x y) (ent x) m n (fun i j => i < k ∨ (i = k ∧ j < t)) M)) (fun i _ => n - (intOf i).toNat)
      case atStart => exact ⟨0, M, Nat.zero_le _, rfl, hE2, hM2, hF.out.congr fun i j _ _ => by omega⟩
      case round =>
        obtain ⟨t, M3, ht, rfl, hE3, hM3, hF3⟩ := hrel
        clear hE2 hM2
        have hkM : k < M3.length := by rw [hF3.out.1.1]; exact hlt
        have hrk : (row M3 k).length = n := hF3.out.1.2 k hlt
        have c1 := hM3.cell hkM
        rw [hrk] at c1
        by_cases hltn : t < n
        · obtain ⟨r, hA, hBr, hrs, hce, hfe⟩ := hM3.addr hkM (by rw [hrk]; omega)
          have c2 := hce t (by rw [hrk]; exact hltn)
          have f2 := hfe t
          rw [hA] at c1
          have he : ent M3 k t = ent x k t := hF3.out.todo hlt hltn (by omega)
          rw [he] at c2
          obtain ⟨q, o', rfl, hd⟩ := (hy.mono hE3).at (i := k) (by rw [HR.out.2.1]; exact hlt)
          obtain ⟨bi, di, d1, hy1, _⟩ := hd k (by rw [HR.out.2.1]; exact hlt)
          rw [HR.out.2.2 k hlt] at d1
          obtain ⟨q2, o3, rfl, hd2⟩ := hy1.at (i := t) (by rw [HR.out.2.2 k hlt]; exact hltn)
          have d2 : wr.cell? ⟨q2, o3 + t, none⟩ = some (.int .i64 (ent y k t)) := hd2 t (by rw [HR.out.2.2 k hlt]; exact hltn)
          have HA := Lib.hid hA
          clear hce hfe hd hd2 hrk he hA hy1
          by_cases hmx : ent x k t < ent y k t
          · have hs : addE x y k t = ent y k t := by unfold addE; omega
            have Hs := Lib.hid hs
            clear hs
            go_wp2_with fail
            refine region_qt_lit 21 (by kernel_rfl) (by kernel_rfl) ?_
            simp only [List.take_succ_cons, List.take_zero, List.drop_succ_cons, List.drop_zero]
            repeat (go_big_quiet_step ((fail)))
            refine wpQuiet_nil ?_
            intro _ hw'
            obtain ⟨nq, hw''⟩ := hw'
            subst hw''
            go_wp2
            go_roundw
            case rel =>
              refine ⟨t + 1, M3.set k ((row M3 k).set t (addE x y k t)), by omega, by go_num, ?_, ?_, hF3.out.step hlt hltn fun i j _ _ => by omega⟩
              · repeat (first | exact hE3 | refine Ext.drewN ?_ _ | refine Ext.drew ?_ | refine Ext.set ?_ hBr _)
              · rw [Hs.out]; exact (hM3.set hkM HA.out t _).ext ⟨rfl, rfl, rfl, Nat.le_refl _, fun _ _ => rfl⟩
            case measure => simp [intOf]; omega
          · have hs : addE x y k t = ent x k t := by unfold addE; omega
            have Hs := Lib.hid hs
            clear hs
            go_wp2_with fail
            refine region_qt_lit 21 (by kernel_rfl) (by kernel_rfl) ?_
            simp only [List.take_succ_cons, List.take_zero, List.drop_succ_cons, List.drop_zero]
            repeat (go_big_quiet_step ((fail)))
            refine wpQuiet_nil ?_
            intro _ hw'
            obtain ⟨nq, hw''⟩ := hw'
            subst hw''
            go_wp2
            go_roundw
            case rel =>
              refine ⟨t + 1, M3.set k ((row M3 k).set t (addE x y k t)), by omega, by go_num, ?_, ?_, hF3.out.step hlt hltn fun i j _ _ => by omega⟩
              · repeat (first | exact hE3 | refine Ext.drewN ?_ _ | refine Ext.drew ?_ | refine Ext.set ?_ hBr _)
              · rw [Hs.out]; exact (hM3.set hkM HA.out t _).ext ⟨rfl, rfl, rfl, Nat.le_refl _, fun _ _ => rfl⟩
            case measure => simp [intOf]; omega
        · obtain rfl : n = t := by omega
          go_wp2
          go_roundw
          case rel => exact ⟨k + 1, M3, by omega, by go_num, hE3, hM3, hF3.out.congr fun i j _ _ => by omega⟩
          case measure => simp [intOf]; omega
    · obtain rfl : m = k := by omega
      have e := hF.out.done fun i j hi hj => hi
      go_wp2
      go_ret
      subst e
      exact hM2.give hE2 (mkMat_len _ _ _) rfl

set_option maxHeartbeats 1000000 in
theorem l02Turn_c (a : Option Addr) (ca m n : Nat) (x : List (List Int)) (w : World) (hx : MatAt w a x) (rx : Rect x m n) (h0 : 0 < m) (hn0 : 0 < n) (hm : m ≤ 1000) (hn : n ≤ 1000) :
    Calls Try.prog 86 #[.slice a x.length ca] w (GivesM w (mkMat n m fun i j => ent x j i)) := by
  have HR := Lib.hid rx
  obtain ⟨b, o, rfl, hc⟩ := hx.at (i := 0) (by rw [rx.1]; exact h0)
  obtain ⟨ai, ci, c1, hx1, _⟩ := hc 0 (by rw [rx.1]; exact h0)
  rw [rx.2 0 h0, Nat.add_zero] at c1
  rw [rx.1]
  have hz : (0 : Int) < (m : Int) := by omega
  clear rx hc hx1
  go_enter Try.func86, Try.ntmps86
  go_wp2_with fail
  refine (l02Bottom_c n m _ hn hm).mono ?_
  rintro e w1 ⟨a', cap, rfl, hO, hE⟩
  obtain ⟨g, A, C, rfl, hM⟩ := hO.open (by rw [mkMat_len]; exact hn0)
  rw [mkMat_len]
  clear hO c1
  go_wp2
  go_loopw [4] (fun i wr => ∃ (k : Nat) (M : List (List Int)), k ≤ m ∧ i = .int .i64 k ∧ Ext w wr ∧ Mat wr w.heap.size g cap A C M ∧ Hid (FillD (fun i j => ent x j i) (fun _ _ => -1000000000000000) n m (fun i j => j < k) M)) (fun i _ => m - (intOf i).toNat)
  case atStart => exact ⟨0, _, Nat.zero_le _, rfl, hE, hM, FillD.start (rect_mk _ _ _) (fun i j hi hj => mkMat_ent hi hj) (fun i j _ _ => Nat.not_lt_zero _)⟩
  case round =>
    obtain ⟨k, M, hk, rfl, hE2, hM2, hF⟩ := hrel
    clear hE hM
    by_cases hlt : k < m
    · go_wp2
      go_loopw [5] (fun i wr => ∃ (t : Nat) (M : List (List Int)), t ≤ n ∧ i = .int .i64 t ∧ Ext w wr ∧ Mat wr w.heap.size g cap A C M ∧ Hid (FillD (fun i j => ent x j i) (fun _ _ => -1000000000000000) n m (fun i j => j < k ∨ (j = k ∧ i < t)) M)) (fun i _ => n - (intOf i).toNat)
      case atStart => exact ⟨0, M, Nat.zero_le _, rfl, hE2, hM2, hF.out.congr fun i j _ _ => by omega⟩
      case round =>
        obtain ⟨t, M3, ht, rfl, hE3, hM3, hF3⟩ := hrel
        clear hE2 hM2
        obtain ⟨q, o', hbo, hd⟩ := (hx.mono hE3).at (i := k) (by rw [HR.out.1]; exact hlt)
        simp only [Option.some.injEq, Addr.mk.injEq, and_true] at hbo
        obtain ⟨rfl, rfl⟩ := hbo
        obtain ⟨bi, di, d1, hy1, _⟩ := hd k (by rw [HR.out.1]; exact hlt)
        rw [HR.out.2 k hlt] at d1
        clear hd
        by_cases hltn : t < n
        · obtain ⟨q2, o3, rfl, hd2⟩ := hy1.at (i := t) (by rw [HR.out.2 k hlt]; exact hltn)
          have d2 : wr.cell? ⟨q2, o3 + t, none⟩ = some (.int .i64 (ent x k t)) := hd2 t (by rw [HR.out.2 k hlt]; exact hltn)
          have htM : t < M3.length := by rw [hF3.out.1.1]; exact hltn
          have hrk : (row M3 t).length = m := hF3.out.1.2 t hltn
          have c1 := hM3.cell htM
          obtain ⟨r, hA, hBr, hrs, hce, hfe⟩ := hM3.addr htM (by rw [hrk]; omega)
          have c2 := hce k (by rw [hrk]; exact hlt)
          have f2 := hfe k
          rw [hrk, hA] at c1
          have HA := Lib.hid hA
          clear hce hfe hd2 hrk hA hy1
          go_wp2_with fail
          refine region_qt_lit 13 (by kernel_rfl) (by kernel_rfl) ?_
          simp only [List.take_succ_cons, List.take_zero, List.drop_succ_cons, List.drop_zero]
          repeat (go_big_quiet_step ((fail)))
          refine wpQuiet_nil ?_
          intro _ hw'
          obtain ⟨nq, hw''⟩ := hw'
          subst hw''
          go_wp2
          go_roundw
          case rel =>
            refine ⟨t + 1, M3.set t ((row M3 t).set k (ent x k t)), by omega, by go_num, ?_, ?_, hF3.out.step hltn hlt fun i j _ _ => by omega⟩
            · repeat (first | exact hE3 | refine Ext.drewN ?_ _ | refine Ext.drew ?_ | refine Ext.set ?_ hBr _)
            · exact (hM3.set htM HA.out k _).ext ⟨rfl, rfl, rfl, Nat.le_refl _, fun _ _ => rfl⟩
          case measure => simp [intOf]; omega
        · obtain rfl : n = t := by omega
          clear hy1
          go_wp2
          go_roundw
          case rel => exact ⟨k + 1, M3, by omega, by go_num, hE3, hM3, hF3.out.congr fun i j _ _ => by omega⟩
          case measure => simp [intOf]; omega
    · obtain rfl : m = k := by omega
      have e := hF.out.done fun i j hi hj => hj
      go_wp2
      go_ret
      subst e
      exact hM2.give hE2 (mkMat_len _ _ _) rfl

end Go.Proofs.Ytljchmkoafahgaa
