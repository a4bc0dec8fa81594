/- Contracts of the walks along paths: spec.l03Walk, spec.l03Cycle, PathWeight. Conditions: the forms of the matrices, the lengths of the lists. -/
import Derived.Test.YtkfpcbafhgolnaaM9
import Derived.Test.YtkfpcbafhgolnaaM5
namespace Go.Proofs.Ytkfpcbafhgolnaa
set_option linter.unusedVariables false
set_option linter.unusedSimpArgs false
open Go.RowKit

theorem walkO_step {x : List (List Int)} {ys : List Int} {k : Nat} {t : Int} (h0 : 0 < k) (h : walkO x ys (k - 1) = some t) {u v : Nat} (hu : (nth ys k).toNat = u) (hv : (nth ys (k - 1)).toNat = v) :
    walkO x ys k = if ent x u v = -1000000000000000 then none else some (t + ent x u v) := by
  obtain ⟨j, rfl⟩ : ∃ j, k = j + 1 := ⟨k - 1, by omega⟩
  rw [Nat.add_sub_cancel] at h hv
  simp only [walkO]; rw [h]; simp only [hu, hv]

set_option maxHeartbeats 1000000 in
theorem l03Walk_c (a b : Option Addr) (ca cb : Nat) (x : List (List Int)) (ys : List Int) (w : World) (hx : MatAt w a x) (hs : isSq x = true) (hy : IntsAt w b ys) (hn : nodes x.length ys = true) (hl : ys.length ≤ 1048577) :
    Calls Try.prog 78 #[.slice a x.length ca, .slice b ys.length cb] w fun e w' => e = .returned (.tuple #[.int .i64 ((walkO x ys (ys.length - 1)).getD 0), .bool (walkO x ys (ys.length - 1)).isSome]) ∧ Qt w w' := by
  obtain ⟨rx, hn1, hn2⟩ := isSq_rect hs
  have HY := Lib.hid (And.intro hy (And.intro hx (And.intro rx (And.intro hs hn))))
  obtain ⟨p, o, rfl⟩ := hx.base (by omega)
  have hxl := hx.len
  clear hx hs hy rx hn
  go_enter Try.func78, Try.ntmps78
  go_wp2
  go_loopw [6, 7] (fun s i wr => ∃ (k : Nat) (t : Int), 1 ≤ k ∧ (k = 1 ∨ k ≤ ys.length) ∧ i = .int .i64 k ∧ s = .int .i64 t ∧ Qt w wr ∧ Hid (walkO x ys (k - 1) = some t)) (fun _ i _ => ys.length - (intOf i).toNat)
  case atStart => exact ⟨1, 0, Nat.le_refl _, .inl rfl, rfl, rfl, Qt.refl _, rfl⟩
  case round =>
    obtain ⟨k, t, hk1, hk, rfl, rfl, hq, hj⟩ := hrel
    by_cases hlt : k < ys.length
    · have hyi := HY.out.1.qt hq
      obtain ⟨p2, oo, rfl⟩ := hyi.base (by omega)
      have c1 := hyi.cell hlt
      have c2 := hyi.cell (i := k - 1) (by omega)
      have el : ((k : Int) - 1) = ((k - 1 : Nat) : Int) := by omega
      have s1 := nodes_iff.1 HY.out.2.2.2.2 k hlt
      have s2 := nodes_iff.1 HY.out.2.2.2.2 (k - 1) (by omega)
      obtain ⟨u, hu, hun, hut⟩ := node_nat (inR_iff.2 s1)
      obtain ⟨v, hv, hvn, hvt⟩ := node_nat (inR_iff.2 s2)
      obtain ⟨q, o2, c, d1, dd, -⟩ := (HY.out.2.1.qt hq).hdr HY.out.2.2.1 hun (Nat.lt_of_le_of_lt (Nat.zero_le _) hvn)
      have d2 := dd v hvn
      have hstep := walkO_step (by omega) hj.out hut hvt
      rw [hu] at c1
      rw [hv] at c2
      clear dd hyi s1 s2 hu hv hut hvt
      by_cases s4 : ent x u v = -1000000000000000
      · have hno : walkO x ys (ys.length - 1) = none := by
          rw [if_pos s4] at hstep
          have := walkO_none hstep (ys.length - 1 - k)
          rwa [show k + (ys.length - 1 - k) = ys.length - 1 by omega] at this
        have Hno := Lib.hid hno
        rw [s4] at d2
        clear hstep hno s4
        go_wp2_with fail
        go_big_quiet (fail)
        go_wp2
        go_ret2
        rw [Hno.out]; exact ⟨rfl, hq.drewN _⟩
      · rw [if_neg s4] at hstep
        have Hn := Lib.hid hstep
        have hbt := walkO_bd HY.out.2.2.2.1 hj.out
        have hbe := isSq_ebd1 HY.out.2.2.2.1 s4
        have hbt2 : -1048577000000 ≤ t ∧ t ≤ 1048577000000 := by omega
        have hs4 : (ent x u v == -1000000000000000) = false := by simpa using s4
        clear hstep hbt s4 hj
        generalize ent x u v = z at d2 hbe Hn hs4
        go_wp2_with fail
        go_big_quiet (fail)
        go_wp2
        go_roundw
        case rel => exact ⟨k + 1, t + z, by omega, by omega, by go_num, by first | rfl | go_num, hq.drewN _, by rw [Nat.add_sub_cancel]; exact Hn⟩
        case measure => simp [intOf]; omega
    · go_wp2
      go_ret2
      have e : k - 1 = ys.length - 1 := by omega
      rw [← e, hj.out]; exact ⟨rfl, hq⟩

set_option maxHeartbeats 1000000 in
theorem implPath_c (a b : Option Addr) (ca cb : Nat) (x : List (List Int)) (ys : List Int) (w : World) (hx : MatAt w a x) (hy : IntsAt w b ys) :
    Calls Try.prog 31 #[.slice a x.length ca, .slice b ys.length cb] w fun e w' => e = .returned (.tuple #[.int .i64 (pathV x ys).1, .int .i64 (pathV x ys).2]) ∧ Ext w w' := by
  have hxl := hx.len
  have hyl := hy.len
  cases hs : isSq x
  · have e : pathV x ys = (0, 1) := by simp [pathV, hs]
    rw [e]; clear e
    go_enter Try.func31, Try.ntmps31
    go_wp2_with fail
    refine (asB hs (isSquare_c _ _ _ _ hx)).mono ?_
    rintro e w1 ⟨rfl, E1⟩
    go_wp2
    go_ret2
    exact ⟨rfl, E1⟩
  cases h1 : inR ys.length 1 100
  · have e : pathV x ys = (0, 2) := by simp [pathV, hs, h1]
    rw [e]; clear e
    go_enter Try.func31, Try.ntmps31
    go_wp2_with fail
    refine (asB hs (isSquare_c _ _ _ _ hx)).mono ?_
    rintro e w1 ⟨rfl, E1⟩
    go_wp2_with fail
    refine (asB h1 (within_c _ _ _ _)).mono ?_
    rintro e w2 ⟨rfl, rfl⟩
    go_wp2
    go_ret2
    exact ⟨rfl, E1⟩
  cases hn : nodes x.length ys
  · have e : pathV x ys = (0, 2) := by simp [pathV, hs, hn]
    rw [e]; clear e
    go_enter Try.func31, Try.ntmps31
    go_wp2_with fail
    refine (asB hs (isSquare_c _ _ _ _ hx)).mono ?_
    rintro e w1 ⟨rfl, E1⟩
    go_wp2_with fail
    refine (asB h1 (within_c _ _ _ _)).mono ?_
    rintro e w2 ⟨rfl, rfl⟩
    go_wp2_with fail
    refine (asB hn (allWithin_c _ _ _ _ _ _ (hy.mono E1))).mono ?_
    rintro e w2 ⟨rfl, rfl⟩
    go_wp2
    go_ret2
    exact ⟨rfl, E1⟩
  have e : pathV x ys = optV (walkO x ys (ys.length - 1)) := by simp [pathV, hs, h1, hn]
  rw [e]; clear e
  have hb := inR_iff.1 h1
  have hlo : 1 ≤ ys.length := by omega
  have hhi : ys.length ≤ 100 := by omega
  clear hb
  obtain ⟨rx, hn1, hn2⟩ := isSq_rect hs
  obtain ⟨p, o, rfl⟩ := hx.base (by omega)
  obtain ⟨p2, oo, rfl⟩ := hy.base (by omega)
  have HY := Lib.hid (And.intro hy (And.intro hx (And.intro rx (And.intro hs hn))))
  clear rx
  go_enter Try.func31, Try.ntmps31
  go_wp2_with fail
  refine (asB hs (isSquare_c _ _ _ _ hx)).mono ?_
  rintro e w1 ⟨rfl, E1⟩
  go_wp2_with fail
  refine (asB h1 (within_c _ _ _ _)).mono ?_
  rintro e w2 ⟨rfl, rfl⟩
  go_wp2_with fail
  refine (asB hn (allWithin_c _ _ _ _ _ _ (hy.mono E1))).mono ?_
  rintro e w2 ⟨rfl, rfl⟩
  clear hx hs hy hn h1
  go_wp2
  go_loopw [6, 7] (fun s i wr => ∃ (k : Nat) (t : Int), 1 ≤ k ∧ k ≤ ys.length ∧ i = .int .i64 k ∧ s = .int .i64 t ∧ Ext w wr ∧ Hid (walkO x ys (k - 1) = some t)) (fun _ i _ => ys.length - (intOf i).toNat)
  case atStart => exact ⟨1, 0, Nat.le_refl _, hlo, rfl, rfl, E1, rfl⟩
  case round =>
    obtain ⟨k, t, hk1, hk, rfl, rfl, hq, hj⟩ := hrel
    clear E1
    by_cases hlt : k < ys.length
    · have hyi := HY.out.1.mono hq
      have c1 := hyi.cell hlt
      have c2 := hyi.cell (i := k - 1) (by omega)
      have el : ((k : Int) - 1) = ((k - 1 : Nat) : Int) := by omega
      have s1 := nodes_iff.1 HY.out.2.2.2.2 k hlt
      have s2 := nodes_iff.1 HY.out.2.2.2.2 (k - 1) (by omega)
      obtain ⟨u, hu, hun, hut⟩ := node_nat (inR_iff.2 s1)
      obtain ⟨v, hv, hvn, hvt⟩ := node_nat (inR_iff.2 s2)
      obtain ⟨q, o2, c, d1, dd, -⟩ := (HY.out.2.1.mono hq).hdr HY.out.2.2.1 hun (Nat.lt_of_le_of_lt (Nat.zero_le _) hvn)
      have d2 := dd v hvn
      have hstep := walkO_step (by omega) hj.out hut hvt
      rw [hu] at c1
      rw [hv] at c2
      clear dd hyi s1 s2 hu hv hut hvt
      by_cases s4 : ent x u v = -1000000000000000
      · have hno : walkO x ys (ys.length - 1) = none := by
          rw [if_pos s4] at hstep
          have := walkO_none hstep (ys.length - 1 - k)
          rwa [show k + (ys.length - 1 - k) = ys.length - 1 by omega] at this
        have Hno := Lib.hid hno
        rw [s4] at d2
        clear hstep hno s4
        go_wp2_with fail
        go_big_quiet (fail)
        go_wp2
        go_ret2
        rw [Hno.out]; exact ⟨rfl, hq.drewN _⟩
      · rw [if_neg s4] at hstep
        have Hn := Lib.hid hstep
        have hbt := walkO_bd HY.out.2.2.2.1 hj.out
        have hbe := isSq_ebd1 HY.out.2.2.2.1 s4
        have hbt2 : -1048577000000 ≤ t ∧ t ≤ 1048577000000 := by omega
        have hs4 : (ent x u v == -1000000000000000) = false := by simpa using s4
        clear hstep hbt s4 hj
        generalize ent x u v = z at d2 hbe Hn hs4
        go_wp2_with fail
        go_big_quiet (fail)
        go_wp2
        go_roundw
        case rel => exact ⟨k + 1, t + z, by omega, by omega, by go_num, by first | rfl | go_num, hq.drewN _, by rw [Nat.add_sub_cancel]; exact Hn⟩
        case measure => simp [intOf]; omega
    · go_wp2_with fail
      refine (checkedValue_c _ _).mono ?_
      rintro e w2 ⟨rfl, rfl⟩
      go_wp2
      go_ret2
      have e : k - 1 = ys.length - 1 := by omega
      rw [← e, hj.out]; exact ⟨rfl, hq⟩

set_option maxHeartbeats 400000 in
theorem specPath_c (a b : Option Addr) (ca cb : Nat) (x : List (List Int)) (ys : List Int) (w : World) (hx : MatAt w a x) (hy : IntsAt w b ys) :
    Calls Try.prog 29 #[.slice a x.length ca, .slice b ys.length cb] w fun e w' => e = .returned (.tuple #[.int .i64 (pathV x ys).1, .int .i64 (pathV x ys).2]) ∧ Ext w w' := by
  have hxl := hx.len
  have hyl := hy.len
  cases hs : isSq x
  · have e : pathV x ys = (0, 1) := by simp [pathV, hs]
    rw [e]; clear e
    go_enter Try.func29, Try.ntmps29
    go_wp2_with fail
    refine (asB hs (l02Square_c _ _ _ _ hx)).mono ?_
    rintro e w1 ⟨rfl, E1⟩
    go_wp2
    go_ret2
    exact ⟨rfl, E1.ext⟩
  cases h1 : inR ys.length 1 100
  · have e : pathV x ys = (0, 2) := by simp [pathV, hs, h1]
    rw [e]; clear e
    have hb := inR_not.1 h1
    have hb2 : ys.length < 1 ∨ 100 < ys.length := by omega
    clear hb h1
    rcases hb2 with hb | hb
    · go_enter Try.func29, Try.ntmps29
      go_wp2_with fail
      refine (asB hs (l02Square_c _ _ _ _ hx)).mono ?_
      rintro e w1 ⟨rfl, E1⟩
      go_wp2
      go_ret2
      exact ⟨rfl, E1.ext⟩
    · go_enter Try.func29, Try.ntmps29
      go_wp2_with fail
      refine (asB hs (l02Square_c _ _ _ _ hx)).mono ?_
      rintro e w1 ⟨rfl, E1⟩
      go_wp2
      go_ret2
      exact ⟨rfl, E1.ext⟩
  have hb := inR_iff.1 h1
  have hlo : 1 ≤ ys.length := by omega
  have hhi : ys.length ≤ 100 := by omega
  clear hb
  cases hn : nodes x.length ys
  · have e : pathV x ys = (0, 2) := by simp [pathV, hs, hn]
    rw [e]; clear e
    clear h1
    go_enter Try.func29, Try.ntmps29
    go_wp2_with fail
    refine (asB hs (l02Square_c _ _ _ _ hx)).mono ?_
    rintro e w1 ⟨rfl, E1⟩
    go_wp2_with fail
    refine (asB hn (l03Nodes_c _ _ _ _ _ _ _ (hy.qt E1) hxl)).mono ?_
    rintro e w2 ⟨rfl, rfl⟩
    go_wp2
    go_ret2
    exact ⟨rfl, E1.ext⟩
  have e : pathV x ys = optV (walkO x ys (ys.length - 1)) := by simp [pathV, hs, h1, hn]
  rw [e]; clear e
  clear h1
  have HW := Lib.hid (fun w' (hq : Qt w w') => l03Walk_c a b ca cb x ys w' (hx.qt hq) hs (hy.qt hq) hn (by omega))
  cases hw : walkO x ys (ys.length - 1) with
  | none =>
    rw [hw] at HW
    go_enter Try.func29, Try.ntmps29
    go_wp2_with fail
    refine (asB hs (l02Square_c _ _ _ _ hx)).mono ?_
    rintro e w1 ⟨rfl, E1⟩
    go_wp2_with fail
    refine (asB hn (l03Nodes_c _ _ _ _ _ _ _ (hy.qt E1) hxl)).mono ?_
    rintro e w2 ⟨rfl, rfl⟩
    go_wp2_with fail
    refine (HW.out _ E1).mono ?_
    rintro e w2 ⟨rfl, E2⟩
    simp only [Option.getD_none, Option.isSome_none]
    go_wp2
    go_ret2
    exact ⟨rfl, (E1.trans E2).ext⟩
  | some t =>
    rw [hw] at HW
    go_enter Try.func29, Try.ntmps29
    go_wp2_with fail
    refine (asB hs (l02Square_c _ _ _ _ hx)).mono ?_
    rintro e w1 ⟨rfl, E1⟩
    go_wp2_with fail
    refine (asB hn (l03Nodes_c _ _ _ _ _ _ _ (hy.qt E1) hxl)).mono ?_
    rintro e w2 ⟨rfl, rfl⟩
    go_wp2_with fail
    refine (HW.out _ E1).mono ?_
    rintro e w2 ⟨rfl, E2⟩
    simp only [Option.getD_some, Option.isSome_some]
    go_wp2_with fail
    refine (l01Value_c _ _).mono ?_
    rintro e w3 ⟨rfl, rfl⟩
    go_wp2
    go_ret2
    exact ⟨rfl, (E1.trans E2).ext⟩
end Go.Proofs.Ytkfpcbafhgolnaa
