/- Several texts in one: M10 M11 M12 M13 M15. -/
import Derived.Test.YtokhkpbebimohaaGN
import Derived.Test.YtokhkpbebimohaaGM
import Derived.Test.YtokhkpbebimohaaGB
import Derived.Deep.AppendLies
import Derived.Deep.RegionLaw
import Derived.IntWalk
import Derived.Test.YtokhkpbebimohaaGS
/- Contracts of the walks along paths: spec.l03Walk, spec.l03Cycle, PathWeight. Conditions: the forms of the matrices, the lengths of the lists. -/
namespace Go.Proofs.Ytokhkpbebimohaa
set_option linter.unusedVariables false
set_option linter.unusedSimpArgs false
open Go.RowKit

theorem walkO_step {x : List (List Int)} {ys : List Int} {k : Nat} {t : Int} (h0 : 0 < k) (h : walkO x ys (k - 1) = some t) {u v : Nat} (hu : (nth ys k).toNat = u) (hv : (nth ys (k - 1)).toNat = v) :
    walkO x ys k = if ent x u v = -1000000000000000 then none else some (t + ent x u v) := by
  obtain ⟨j, rfl⟩ : ∃ j, k = j + 1 := ⟨k - 1, by omega⟩
  rw [Nat.add_sub_cancel] at h hv
  simp only [walkO]; rw [h]; simp only [hu, hv]

set_option maxHeartbeats 1000000 in
theorem l03Walk_c (a b : Option Addr) (ca cb : Nat) (x : List (List Int)) (ys : List Int) (w : World) (hx : MatAt w a x) (hs : isSq x = true) (hy : IntsAt w b ys) (hn : nodes x.length ys = true) (hl : ys.length ≤ 1048577) :
    Calls Try.prog 102 #[.slice a x.length ca, .slice b ys.length cb] w fun e w' => e = .returned (.tuple #[.int .i64 ((walkO x ys (ys.length - 1)).getD 0), .bool (walkO x ys (ys.length - 1)).isSome]) ∧ Qt w w' := by
  obtain ⟨rx, hn1, hn2⟩ := isSq_rect hs
  have HY := Lib.hid (And.intro hy (And.intro hx (And.intro rx (And.intro hs hn))))
  obtain ⟨p, o, rfl⟩ := hx.base (by omega)
  have hxl := hx.len
  clear hx hs hy rx hn
  go_enter Try.func102, Try.ntmps102
  go_wp2
  go_loopw [6, 7] (fun s i wr => ∃ (k : Nat) (t : Int), 1 ≤ k ∧ (k = 1 ∨ k ≤ ys.length) ∧ i = .int .i64 k ∧ s = .int .i64 t ∧ Qt w wr ∧ Hid (walkO x ys (k - 1) = some t)) (fun _ i _ => ys.length - (intOf i).toNat)
  case atStart => exact ⟨1, 0, Nat.le_refl _, .inl rfl, rfl, rfl, Qt.refl _, rfl⟩
  case round =>
    obtain ⟨k, t, hk1, hk, rfl, rfl, hq, hj⟩ := hrel
    by_cases hlt : k < ys.length
    · have hyi := HY.out.1.qt hq
      obtain ⟨p2, oo, rfl⟩ := hyi.base (by omega)
      have c1 := hyi.cell hlt
      have c2 := hyi.cell (i := k - 1) (by omega)
      have el : ((k : Int) - 1) = ((k - 1 : Nat) : Int) := by omega
      have s1 := nodes_iff.1 HY.out.2.2.2.2 k hlt
      have s2 := nodes_iff.1 HY.out.2.2.2.2 (k - 1) (by omega)
      obtain ⟨u, hu, hun, hut⟩ := node_nat (inR_iff.2 s1)
      obtain ⟨v, hv, hvn, hvt⟩ := node_nat (inR_iff.2 s2)
      obtain ⟨q, o2, c, d1, dd, -⟩ := (HY.out.2.1.qt hq).hdr HY.out.2.2.1 hun (Nat.lt_of_le_of_lt (Nat.zero_le _) hvn)
      have d2 := dd v hvn
      have hstep := walkO_step (by omega) hj.out hut hvt
      rw [hu] at c1
      rw [hv] at c2
      clear dd hyi s1 s2 hu hv hut hvt
      by_cases s4 : ent x u v = -1000000000000000
      · have hno : walkO x ys (ys.length - 1) = none := by
          rw [if_pos s4] at hstep
          have := walkO_none hstep (ys.length - 1 - k)
          rwa [show k + (ys.length - 1 - k) = ys.length - 1 by omega] at this
        have Hno := Lib.hid hno
        rw [s4] at d2
        clear hstep hno s4
        go_wp2_with fail
        go_big_quiet (fail)
        go_wp2
        go_ret2
        rw [Hno.out]; exact ⟨rfl, hq.drewN _⟩
      · rw [if_neg s4] at hstep
        have Hn := Lib.hid hstep
        have hbt := walkO_bd HY.out.2.2.2.1 hj.out
        have hbe := isSq_ebd1 HY.out.2.2.2.1 s4
        have hbt2 : -1048577000000 ≤ t ∧ t ≤ 1048577000000 := by omega
        have hs4 : (ent x u v == -1000000000000000) = false := by simpa using s4
        clear hstep hbt s4 hj
        generalize ent x u v = z at d2 hbe Hn hs4
        go_wp2_with fail
        go_big_quiet (fail)
        go_wp2
        go_roundw
        case rel => exact ⟨k + 1, t + z, by omega, by omega, by go_num, by first | rfl | go_num, hq.drewN _, by rw [Nat.add_sub_cancel]; exact Hn⟩
        case measure => simp [intOf]; omega
    · go_wp2
      go_ret2
      have e : k - 1 = ys.length - 1 := by omega
      rw [← e, hj.out]; exact ⟨rfl, hq⟩

set_option maxHeartbeats 1000000 in
theorem implPath_c (a b : Option Addr) (ca cb : Nat) (x : List (List Int)) (ys : List Int) (w : World) (hx : MatAt w a x) (hy : IntsAt w b ys) :
    Calls Try.prog 39 #[.slice a x.length ca, .slice b ys.length cb] w fun e w' => e = .returned (.tuple #[.int .i64 (pathV x ys).1, .int .i64 (pathV x ys).2]) ∧ Ext w w' := by
  have hxl := hx.len
  have hyl := hy.len
  cases hs : isSq x
  · have e : pathV x ys = (0, 1) := by simp [pathV, hs]
    rw [e]; clear e
    go_enter Try.func39, Try.ntmps39
    go_wp2_with fail
    refine (asB hs (isSquare_c _ _ _ _ hx)).mono ?_
    rintro e w1 ⟨rfl, E1⟩
    go_wp2
    go_ret2
    exact ⟨rfl, E1⟩
  cases h1 : inR ys.length 1 100
  · have e : pathV x ys = (0, 2) := by simp [pathV, hs, h1]
    rw [e]; clear e
    go_enter Try.func39, Try.ntmps39
    go_wp2_with fail
    refine (asB hs (isSquare_c _ _ _ _ hx)).mono ?_
    rintro e w1 ⟨rfl, E1⟩
    go_wp2_with fail
    refine (asB h1 (within_c _ _ _ _)).mono ?_
    rintro e w2 ⟨rfl, rfl⟩
    go_wp2
    go_ret2
    exact ⟨rfl, E1⟩
  cases hn : nodes x.length ys
  · have e : pathV x ys = (0, 2) := by simp [pathV, hs, hn]
    rw [e]; clear e
    go_enter Try.func39, Try.ntmps39
    go_wp2_with fail
    refine (asB hs (isSquare_c _ _ _ _ hx)).mono ?_
    rintro e w1 ⟨rfl, E1⟩
    go_wp2_with fail
    refine (asB h1 (within_c _ _ _ _)).mono ?_
    rintro e w2 ⟨rfl, rfl⟩
    go_wp2_with fail
    refine (asB hn (allWithin_c _ _ _ _ _ _ (hy.mono E1))).mono ?_
    rintro e w2 ⟨rfl, rfl⟩
    go_wp2
    go_ret2
    exact ⟨rfl, E1⟩
  have e : pathV x ys = optV (walkO x ys (ys.length - 1)) := by simp [pathV, hs, h1, hn]
  rw [e]; clear e
  have hb := inR_iff.1 h1
  have hlo : 1 ≤ ys.length := by omega
  have hhi : ys.length ≤ 100 := by omega
  clear hb
  obtain ⟨rx, hn1, hn2⟩ := isSq_rect hs
  obtain ⟨p, o, rfl⟩ := hx.base (by omega)
  obtain ⟨p2, oo, rfl⟩ := hy.base (by omega)
  have HY := Lib.hid (And.intro hy (And.intro hx (And.intro rx (And.intro hs hn))))
  clear rx
  go_enter Try.func39, Try.ntmps39
  go_wp2_with fail
  refine (asB hs (isSquare_c _ _ _ _ hx)).mono ?_
  rintro e w1 ⟨rfl, E1⟩
  go_wp2_with fail
  refine (asB h1 (within_c _ _ _ _)).mono ?_
  rintro e w2 ⟨rfl, rfl⟩
  go_wp2_with fail
  refine (asB hn (allWithin_c _ _ _ _ _ _ (hy.mono E1))).mono ?_
  rintro e w2 ⟨rfl, rfl⟩
  clear hx hs hy hn h1
  go_wp2
  go_loopw [6, 7] (fun s i wr => ∃ (k : Nat) (t : Int), 1 ≤ k ∧ k ≤ ys.length ∧ i = .int .i64 k ∧ s = .int .i64 t ∧ Ext w wr ∧ Hid (walkO x ys (k - 1) = some t)) (fun _ i _ => ys.length - (intOf i).toNat)
  case atStart => exact ⟨1, 0, Nat.le_refl _, hlo, rfl, rfl, E1, rfl⟩
  case round =>
    obtain ⟨k, t, hk1, hk, rfl, rfl, hq, hj⟩ := hrel
    clear E1
    by_cases hlt : k < ys.length
    · have hyi := HY.out.1.mono hq
      have c1 := hyi.cell hlt
      have c2 := hyi.cell (i := k - 1) (by omega)
      have el : ((k : Int) - 1) = ((k - 1 : Nat) : Int) := by omega
      have s1 := nodes_iff.1 HY.out.2.2.2.2 k hlt
      have s2 := nodes_iff.1 HY.out.2.2.2.2 (k - 1) (by omega)
      obtain ⟨u, hu, hun, hut⟩ := node_nat (inR_iff.2 s1)
      obtain ⟨v, hv, hvn, hvt⟩ := node_nat (inR_iff.2 s2)
      obtain ⟨q, o2, c, d1, dd, -⟩ := (HY.out.2.1.mono hq).hdr HY.out.2.2.1 hun (Nat.lt_of_le_of_lt (Nat.zero_le _) hvn)
      have d2 := dd v hvn
      have hstep := walkO_step (by omega) hj.out hut hvt
      rw [hu] at c1
      rw [hv] at c2
      clear dd hyi s1 s2 hu hv hut hvt
      by_cases s4 : ent x u v = -1000000000000000
      · have hno : walkO x ys (ys.length - 1) = none := by
          rw [if_pos s4] at hstep
          have := walkO_none hstep (ys.length - 1 - k)
          rwa [show k + (ys.length - 1 - k) = ys.length - 1 by omega] at this
        have Hno := Lib.hid hno
        rw [s4] at d2
        clear hstep hno s4
        go_wp2_with fail
        go_big_quiet (fail)
        go_wp2
        go_ret2
        rw [Hno.out]; exact ⟨rfl, hq.drewN _⟩
      · rw [if_neg s4] at hstep
        have Hn := Lib.hid hstep
        have hbt := walkO_bd HY.out.2.2.2.1 hj.out
        have hbe := isSq_ebd1 HY.out.2.2.2.1 s4
        have hbt2 : -1048577000000 ≤ t ∧ t ≤ 1048577000000 := by omega
        have hs4 : (ent x u v == -1000000000000000) = false := by simpa using s4
        clear hstep hbt s4 hj
        generalize ent x u v = z at d2 hbe Hn hs4
        go_wp2_with fail
        go_big_quiet (fail)
        go_wp2
        go_roundw
        case rel => exact ⟨k + 1, t + z, by omega, by omega, by go_num, by first | rfl | go_num, hq.drewN _, by rw [Nat.add_sub_cancel]; exact Hn⟩
        case measure => simp [intOf]; omega
    · go_wp2_with fail
      refine (checkedValue_c _ _).mono ?_
      rintro e w2 ⟨rfl, rfl⟩
      go_wp2
      go_ret2
      have e : k - 1 = ys.length - 1 := by omega
      rw [← e, hj.out]; exact ⟨rfl, hq⟩

set_option maxHeartbeats 400000 in
theorem specPath_c (a b : Option Addr) (ca cb : Nat) (x : List (List Int)) (ys : List Int) (w : World) (hx : MatAt w a x) (hy : IntsAt w b ys) :
    Calls Try.prog 40 #[.slice a x.length ca, .slice b ys.length cb] w fun e w' => e = .returned (.tuple #[.int .i64 (pathV x ys).1, .int .i64 (pathV x ys).2]) ∧ Ext w w' := by
  have hxl := hx.len
  have hyl := hy.len
  cases hs : isSq x
  · have e : pathV x ys = (0, 1) := by simp [pathV, hs]
    rw [e]; clear e
    go_enter Try.func40, Try.ntmps40
    go_wp2_with fail
    refine (asB hs (l02Square_c _ _ _ _ hx)).mono ?_
    rintro e w1 ⟨rfl, E1⟩
    go_wp2
    go_ret2
    exact ⟨rfl, E1.ext⟩
  cases h1 : inR ys.length 1 100
  · have e : pathV x ys = (0, 2) := by simp [pathV, hs, h1]
    rw [e]; clear e
    have hb := inR_not.1 h1
    have hb2 : ys.length < 1 ∨ 100 < ys.length := by omega
    clear hb h1
    rcases hb2 with hb | hb
    · go_enter Try.func40, Try.ntmps40
      go_wp2_with fail
      refine (asB hs (l02Square_c _ _ _ _ hx)).mono ?_
      rintro e w1 ⟨rfl, E1⟩
      go_wp2
      go_ret2
      exact ⟨rfl, E1.ext⟩
    · go_enter Try.func40, Try.ntmps40
      go_wp2_with fail
      refine (asB hs (l02Square_c _ _ _ _ hx)).mono ?_
      rintro e w1 ⟨rfl, E1⟩
      go_wp2
      go_ret2
      exact ⟨rfl, E1.ext⟩
  have hb := inR_iff.1 h1
  have hlo : 1 ≤ ys.length := by omega
  have hhi : ys.length ≤ 100 := by omega
  clear hb
  cases hn : nodes x.length ys
  · have e : pathV x ys = (0, 2) := by simp [pathV, hs, hn]
    rw [e]; clear e
    clear h1
    go_enter Try.func40, Try.ntmps40
    go_wp2_with fail
    refine (asB hs (l02Square_c _ _ _ _ hx)).mono ?_
    rintro e w1 ⟨rfl, E1⟩
    go_wp2_with fail
    refine (asB hn (l03Nodes_c _ _ _ _ _ _ _ (hy.qt E1) hxl)).mono ?_
    rintro e w2 ⟨rfl, rfl⟩
    go_wp2
    go_ret2
    exact ⟨rfl, E1.ext⟩
  have e : pathV x ys = optV (walkO x ys (ys.length - 1)) := by simp [pathV, hs, h1, hn]
  rw [e]; clear e
  clear h1
  have HW := Lib.hid (fun w' (hq : Qt w w') => l03Walk_c a b ca cb x ys w' (hx.qt hq) hs (hy.qt hq) hn (by omega))
  cases hw : walkO x ys (ys.length - 1) with
  | none =>
    rw [hw] at HW
    go_enter Try.func40, Try.ntmps40
    go_wp2_with fail
    refine (asB hs (l02Square_c _ _ _ _ hx)).mono ?_
    rintro e w1 ⟨rfl, E1⟩
    go_wp2_with fail
    refine (asB hn (l03Nodes_c _ _ _ _ _ _ _ (hy.qt E1) hxl)).mono ?_
    rintro e w2 ⟨rfl, rfl⟩
    go_wp2_with fail
    refine (HW.out _ E1).mono ?_
    rintro e w2 ⟨rfl, E2⟩
    simp only [Option.getD_none, Option.isSome_none]
    go_wp2
    go_ret2
    exact ⟨rfl, (E1.trans E2).ext⟩
  | some t =>
    rw [hw] at HW
    go_enter Try.func40, Try.ntmps40
    go_wp2_with fail
    refine (asB hs (l02Square_c _ _ _ _ hx)).mono ?_
    rintro e w1 ⟨rfl, E1⟩
    go_wp2_with fail
    refine (asB hn (l03Nodes_c _ _ _ _ _ _ _ (hy.qt E1) hxl)).mono ?_
    rintro e w2 ⟨rfl, rfl⟩
    go_wp2_with fail
    refine (HW.out _ E1).mono ?_
    rintro e w2 ⟨rfl, E2⟩
    simp only [Option.getD_some, Option.isSome_some]
    go_wp2_with fail
    refine (l01Value_c _ _).mono ?_
    rintro e w3 ⟨rfl, rfl⟩
    go_wp2
    go_ret2
    exact ⟨rfl, (E1.trans E2).ext⟩
end Go.Proofs.Ytokhkpbebimohaa

/- Contracts of spec.l03Cycle, IsCycle, CycleWeight. Conditions: the forms of the matrices, the lengths of the lists. -/
namespace Go.Proofs.Ytokhkpbebimohaa
set_option linter.unusedVariables false
set_option linter.unusedSimpArgs false
open Go.RowKit

/-- append of one integer, as a step of a region that draws -/
theorem step_app_i {ops : Array Oper} {o : Oper} {a : Act} {K : Act → World → Prop} {Q : Exit → Act → World → Prop} {E : Prop} {w : World} (hgd : o.guard = none) (s x : Operand)
    (ho : o.op = .call { callee := .builtin .append, args := #[s, x], argTypes := #[34, 34] })
    (B : Nat) (v : Value) (xs : List Int) (hs : a.eval s = v) (hown : OwnI w B v xs) (ad : Addr) (c : Nat) (y : Int) (hx : a.eval x = .slice (some ad) 1 c) (hc : w.cell? ad = some (.int .i64 y))
    (hl : xs.length ≤ 1000000000) (hB : B ≤ w.heap.size)
    (h : ∀ v' w', OwnI w' B v' (xs ++ [y]) → w.grownBy w' v.ownBlock → K (a.put o.dst v') w') :
    if Region.wanted o (yielded ops a.tmps) = true then Oper.wp Try.prog o a w K Q else E := by
  obtain ⟨i0, hi, hz0, hz1, hz2⟩ := info_parts info_i
  refine step_append_lies w hgd s x 34 ho B 2 i0 (.int .i64 0) 1 8 Try.underlying34 hi hz0 hz1 hz2 rfl (by decide) v xs.length (xs.map (Value.int .i64)) hs hown ad 1 c [.int .i64 y] hx rfl ?_ ?_ (by decide) ?_ ?_ hB _ rfl ?_
  · intro j u hj
    match j, hj with
    | 0, hj =>
      simp only [List.getElem?_cons_zero, Option.some.injEq] at hj
      subst hj
      have : ad.add 0 = ad := by simp [Addr.add]
      rw [this]; exact hc
  · intro u hu; simp only [List.mem_singleton] at hu; subst hu; rfl
  · have : maxLen = 9223372036854775807 := rfl
    omega
  · omega
  · intro g cap w' h1 h2 _ _
    refine h _ w' ?_ h2
    unfold OwnI
    simpa using h1

set_option maxHeartbeats 2000000 in
theorem l03Cycle_c {B : Nat} (a b : Option Addr) (ca cb : Nat) (x : List (List Int)) (xs : List Int) (w : World) (hx : MatAt w a x) (hs : isSq x = true) (hy : OwnI w B (.slice b xs.length cb) xs) (hl : xs.length ≤ 1048576) :
    Calls Try.prog 144 #[.slice a x.length ca, .slice b xs.length cb] w fun e w' => e = .returned (.tuple #[.int .i64 ((cycleO x xs).getD 0), .bool (cycleO x xs).isSome]) ∧ Ext w w' := by
  have hxl := hx.len
  rcases hy.form with ⟨h1, h2⟩ | ⟨g, cap, h1, hBg, hg, hle, hmx, -, -⟩
  · subst h2
    simp only [Value.slice.injEq] at h1
    obtain ⟨rfl, _, rfl⟩ := h1
    have e : cycleO x [] = none := rfl
    rw [e]; clear e
    go_enter Try.func144, Try.ntmps144
    go_wp2
    go_ret2
    exact ⟨rfl, Ext.refl _⟩
  simp only [Value.slice.injEq, Option.some.injEq, Addr.mk.injEq, and_true, true_and] at h1
  obtain ⟨rfl, rfl⟩ := h1
  have hyi := hy.ints
  have hnc := hy.nocap
  by_cases h0 : xs.length = 0
  · have e : cycleO x xs = none := by unfold cycleO; rw [if_pos h0]
    rw [e]; clear e
    rw [h0]
    go_enter Try.func144, Try.ntmps144
    go_wp2
    go_ret2
    exact ⟨rfl, Ext.refl _⟩
  have hpos : 0 < xs.length := by omega
  have eq1 : ((xs.length : Int) == 0) = false := by rw [beq_eq_false_iff_ne]; omega
  cases hn : nodes x.length xs
  · have e := cycle_bad1 hn
    rw [e]; clear e
    clear hnc
    go_enter Try.func144, Try.ntmps144
    go_wp2_with fail
    refine (asB hn (l03Nodes_c _ _ _ _ _ _ _ hyi hxl)).mono ?_
    rintro e w2 ⟨rfl, rfl⟩
    go_wp2
    go_ret2
    exact ⟨rfl, Ext.refl _⟩
  have HY := Lib.hid (And.intro hyi (And.intro hx (And.intro hs hn)))
  have HN := Lib.hid hnc
  clear hnc hx hs
  go_enter Try.func144, Try.ntmps144
  go_wp2_with fail
  refine (asB hn (l03Nodes_c _ _ _ _ _ _ _ hyi hxl)).mono ?_
  rintro e w2 ⟨rfl, rfl⟩
  clear hn hyi hy
  go_wp2
  go_loopw [6] (fun i wr => ∃ k : Nat, k ≤ xs.length ∧ i = .int .i64 k ∧ Qt w wr ∧ Hid (∀ j, j < k → has (xs.take j) (nth xs j) = false)) (fun i _ => xs.length - (intOf i).toNat)
  case atStart => exact ⟨0, Nat.zero_le _, rfl, Qt.refl _, fun j hj => absurd hj (Nat.not_lt_zero _)⟩
  case round =>
    obtain ⟨k, hk, rfl, hq, hj⟩ := hrel
    by_cases hlt : k < xs.length
    · have c1 := (HY.out.1.qt hq).cell hlt
      rw [Nat.zero_add] at c1
      have htk : (xs.take k).length = k := by simp; omega
      have hCo := fun w' (h : Qt w w') => l01Has_c (some ⟨g, 0, none⟩) cb (xs.take k) (nth xs k) w' ((HY.out.1.qt h).take k (by omega))
      rw [htk] at hCo
      have HC := Lib.hid hCo
      have hkc : k ≤ cb := by omega
      clear hCo htk
      cases s3 : has (xs.take k) (nth xs k)
      · have S3 := Lib.hid s3
        clear s3
        go_wp2_with fail
        go_big_quiet ((go_at_call 164; exact quiet_pure (asB S3.out (HC.out _ (hq.drewN _)))))
        go_wp2
        go_roundw
        case rel => exact ⟨k + 1, by omega, by go_num, hq.drewN _, fun j h => by
          by_cases e : j = k
          · subst e; exact S3.out
          · exact hj.out j (by omega)⟩
        case measure => simp [intOf]; omega
      · have hno := cycle_bad2 (a := x) hlt s3
        have Hno := Lib.hid hno
        have S3 := Lib.hid s3
        clear s3 hno
        go_wp2_with fail
        go_big_quiet ((go_at_call 164; exact quiet_pure (asB S3.out (HC.out _ (hq.drewN _)))))
        go_wp2
        go_ret2
        rw [Hno.out]; exact ⟨rfl, (hq.drewN _).ext⟩
    · have ho : once xs := fun i hi => hj.out i (by omega)
      have hgd := cycle_good hpos HY.out.2.2.2 ho
      unfold sCyc at hgd
      have c0 := (HY.out.1.qt hq).cell hpos
      rw [Nat.zero_add] at c0
      have hnn : nodes x.length (xs ++ [nth xs 0]) = true := nodes_iff.2 fun i hi => by
        by_cases e : i < xs.length
        · rw [nth_app1 e]; exact nodes_iff.1 HY.out.2.2.2 i e
        · have : i = xs.length := by simp at hi; omega
          subst this
          rw [nth_app2]; exact nodes_iff.1 HY.out.2.2.2 0 hpos
      have hll : (xs ++ [nth xs 0]).length = xs.length + 1 := by simp
      have hW := fun (b : Option Addr) cb w' (h : Ext w w') (hy : IntsAt w' b (xs ++ [nth xs 0])) => l03Walk_c a b ca cb x (xs ++ [nth xs 0]) w' (HY.out.2.1.mono h) HY.out.2.2.1 hy hnn (by omega)
      have e2 : (xs ++ [nth xs 0]).length - 1 = xs.length := by omega
      rw [e2, ← hgd, hll] at hW
      have HW := Lib.hid hW
      have HH := Lib.hid (And.intro hll (And.intro hq hnn))
      clear hW e2 hnn hll hgd ho
      go_wp2_with fail
      have hQ := HH.out.2.1
      have hLn := HH.out.1
      go_region_law ((first | (go_simp; go_at_call 165; refine (l01Own_c _ _ _ _ (by repeat (first | exact HY.out.1.qt hQ | refine IntsAt.mono ?_ ((Ext.refl _).alloc _) | refine IntsAt.mono ?_ ((Ext.refl _).drew))) HN.out (by omega)).mono ?_; rintro e w2 ⟨ar, cr, rfl, hO2, hE2⟩; first | have c0' := hE2.cell c0 | skip) | (go_simp; go_at_call 102; refine (HW.out _ _ _ (by first | exact grown_i ((hQ.drew).ext.trans hE2) hO2 (by first | exact Nat.le_of_eq hQ.drew.size.symm | omega) hg | exact (((hQ.drew).ext.alloc _).trans hE2).grown hg (fun k hk => by have := hO2.base k hk; have := hQ.drew.size; simp at *; omega)) hi4).mono ?_; rintro e w5 ⟨rfl, hq5⟩) | (refine step_app_i rfl _ _ rfl _ _ _ rfl (by first | exact hO2 | exact hO2.ext ((Ext.refl _).alloc _)) _ 1 _ rfl (by first | exact cell_one _ _ _ | exact hE2.cell (cell_one _ _ _)) (by omega) (by first | exact hE2.size | exact ((hE2.alloc _).size)) ?_; intro v' w' hO4 hg; obtain ⟨a4, c4, rfl, hi4⟩ := hO4.at)))
      all_goals go_wp2
      all_goals go_ret2
      all_goals exact ⟨rfl, Ext.qt (by first | exact grown_i ((hQ.drew).ext.trans hE2) hO2 (by first | exact Nat.le_of_eq hQ.drew.size.symm | omega) hg | exact (((hQ.drew).ext.alloc _).trans hE2).grown hg (fun k hk => by have := hO2.base k hk; have := hQ.drew.size; simp at *; omega)) hq5⟩
end Go.Proofs.Ytokhkpbebimohaa

/- Contracts of shifting and stretching a square matrix. Conditions: the forms of the matrices, the bounds of the ratio. -/
namespace Go.Proofs.Ytokhkpbebimohaa
set_option linter.unusedVariables false
set_option linter.unusedSimpArgs false
open Go.RowKit

theorem sh_wrap {den e num : Int} (hd : -1000000 ≤ den ∧ den ≤ 1000000) (he : -1000000 ≤ e ∧ e ≤ 1000000) (hn : -1000000 ≤ num ∧ num ≤ 1000000) :
    (-1000000000000 ≤ den * e ∧ den * e ≤ 1000000000000) ∧ IntKind.i64.wrap (den * e) = den * e ∧ IntKind.i64.wrap (den * e - num) = den * e - num := by
  have h := mul_bd hd he
  exact ⟨by omega, IntWalk.i64_in _ (by omega), IntWalk.i64_in _ (by omega)⟩

theorem shiftF_c (b1 b2 : Nat) (a : Option Addr) (ca : Nat) (x : List (List Int)) (num den : Int) (i j : Nat) (w : World) (h1 : w.cell? ⟨b1, 0, none⟩ = some (.slice a x.length ca)) (h2 : w.cell? ⟨b2, 0, none⟩ = some (.int .i64 num)) (h3 : w.cell? ⟨b2, 1, none⟩ = some (.int .i64 den))
    (hx : MatAt w a x) (hs : isSq x = true) (hi : i < x.length) (hj : j < x.length) (hn : -1000000 ≤ num ∧ num ≤ 1000000) (hd : -1000000 ≤ den ∧ den ≤ 1000000) :
    Calls Try.prog 156 #[.int .i64 (i : Int), .int .i64 (j : Int), .pointer (some ⟨b1, 0, none⟩), .pointer (some ⟨b2, 0, none⟩)] w fun e w' => e = .returned (.int .i64 (shiftE x num den i j)) ∧ Qt w w' := by
  obtain ⟨rx, hl1, hl2⟩ := isSq_rect hs
  obtain ⟨p, o, rfl⟩ := hx.base (by omega)
  obtain ⟨q, o2, c, d1, dd, -⟩ := hx.hdr rx hi (by omega)
  have d2 := dd j hj
  have hxl := hx.len
  clear dd rx
  unfold shiftE
  by_cases s4 : ent x i j = -1000000000000000
  · rw [if_pos s4]
    rw [s4] at d2
    clear hx hs s4
    go_enter Try.func156, Try.ntmps156
    go_wp2
    go_ret
    exact ⟨rfl, Qt.refl _⟩
  · rw [if_neg s4]
    have hs4 : (ent x i j == -1000000000000000) = false := by simpa using s4
    obtain ⟨hb, hw1, hw2⟩ := sh_wrap hd (isSq_ebd1 hs s4) hn
    clear hx hs s4
    generalize ent x i j = z at *
    go_enter Try.func156, Try.ntmps156
    go_wp2_with fail
    go_big_quiet (fail)
    go_wp2
    go_ret
    exact ⟨ret_int (by simp only [hw1, hw2]), (Qt.refl _).drewN _⟩
theorem shiftF_enter (args : Array Value) (w : World) : Sem.run Try.prog (callFunc 156 args) w = .ok (.enter 156 args) w := by
  simp [callFunc, Try.func156, Try.f156]

theorem shifted_c (a : Option Addr) (ca : Nat) (x : List (List Int)) (num den : Int) (w : World) (hx : MatAt w a x) (hs : isSq x = true) (hn : -1000000 ≤ num ∧ num ≤ 1000000) (hd : -1000000 ≤ den ∧ den ≤ 1000000) :
    Calls Try.prog 121 #[.slice a x.length ca, .agg #[.int .i64 num, .int .i64 den]] w (GivesM w (shiftM x num den)) := by
  obtain ⟨rx, hl1, hl2⟩ := isSq_rect hs
  obtain ⟨W1, hW1⟩ : ∃ W, w.alloc (.cells #[.slice a x.length ca] 24) = W := ⟨_, rfl⟩
  have hE1 : Ext w W1 := by rw [← hW1]; exact (Ext.refl w).alloc _
  have hb1 : W1.cell? ⟨w.heap.size, 0, none⟩ = some (.slice a x.length ca) := by rw [← hW1]; simp
  obtain ⟨W, hW, HB, hs2, hE2⟩ := alloc2_facts W1 (.int .i64 num) (.int .i64 den) 55
  have hb1' := hE2.cell hb1
  have hE := hE1.trans hE2
  have hx' := hx.mono hE
  have H := Lib.hid (fun (W' : World) (hq : Ext W W') => matrixBy_c 156 #[.pointer (some ⟨w.heap.size, 0, none⟩), .pointer (some ⟨W1.heap.size, 0, none⟩)] x.length x.length (shiftE x num den) W' (by omega) (by omega) shiftF_enter
    (fun i j w' hi hj hE' => shiftF_c w.heap.size W1.heap.size a ca x num den i j w' (hE'.cell (hq.cell hb1')) (hE'.cell (hq.cell HB.c0)) (hE'.cell (hq.cell HB.c1)) ((hx'.mono hq).mono hE') hs hi hj hn hd))
  have hxl := hx.len
  clear hx hx' hE1 hE2 hb1 rx hs HB
  go_enter Try.func121, Try.ntmps121
  go_wp2_with fail
  refine (H.out _ (Ext.refl _)).mono ?_
  rintro e w' ⟨a', cap', rfl, h1, h2⟩
  go_wp2
  go_ret
  exact ⟨a', cap', rfl, h1.mono hE.size, hE.trans h2⟩

set_option maxHeartbeats 1000000 in
theorem l04Shift_c (a : Option Addr) (ca : Nat) (x : List (List Int)) (num den : Int) (w : World) (hx : MatAt w a x) (hs : isSq x = true) (hn : -1000000 ≤ num ∧ num ≤ 1000000) (hd : -1000000 ≤ den ∧ den ≤ 1000000) :
    Calls Try.prog 118 #[.slice a x.length ca, .agg #[.int .i64 num, .int .i64 den]] w (GivesM w (shiftM x num den)) := by
  obtain ⟨rx, hl1, hl2⟩ := isSq_rect hs
  obtain ⟨W, hW, HB, hs2, hE0⟩ := alloc2_facts w (.int .i64 num) (.int .i64 den) 55
  obtain ⟨p, o, rfl⟩ := hx.base (by omega)
  have hxl := hx.len
  have HX := Lib.hid (And.intro hx (And.intro rx hs))
  have HBB := Lib.hid HB
  clear hx rx hs HB
  go_enter Try.func118, Try.ntmps118
  go_wp2_with fail
  refine (l02Own_c _ ca x _ (HX.out.1.mono hE0) (by omega) (fun i hi => by rw [HX.out.2.1.2 i hi]; omega)).mono ?_
  rintro e w1 ⟨a', cap, rfl, hO, hE⟩
  obtain ⟨g, A, C, rfl, hM⟩ := hO.open (by omega)
  clear hO
  go_wp2
  go_loopw [6] (fun i wr => ∃ (k : Nat) (M : List (List Int)), k ≤ x.length ∧ i = .int .i64 k ∧ Ext W wr ∧ Mat wr W.heap.size g cap A C M ∧ Hid (FillD (shiftE x num den) (ent x) x.length x.length (fun i j => i < k) M)) (fun i _ => x.length - (intOf i).toNat)
  case atStart => exact ⟨0, x, Nat.zero_le _, rfl, hE, hM, FillD.start HX.out.2.1 (fun i j _ _ => rfl) (fun i j _ _ => Nat.not_lt_zero _)⟩
  case round =>
    obtain ⟨k, M, hk, rfl, hE2, hM2, hF⟩ := hrel
    clear hE hM
    by_cases hlt : k < x.length
    · go_wp2
      go_loopw [7] (fun i wr => ∃ (t : Nat) (M : List (List Int)), t ≤ x.length ∧ i = .int .i64 t ∧ Ext W wr ∧ Mat wr W.heap.size g cap A C M ∧ Hid (FillD (shiftE x num den) (ent x) x.length x.length (fun i j => i < k ∨ (i = k ∧ j < t)) M)) (fun i _ => x.length - (intOf i).toNat)
      case atStart => exact ⟨0, M, Nat.zero_le _, rfl, hE2, hM2, hF.out.congr fun i j _ _ => by omega⟩
      case round =>
        obtain ⟨t, M3, ht, rfl, hE3, hM3, hF3⟩ := hrel
        clear hE2 hM2
        by_cases hltn : t < x.length
        · obtain ⟨q, o3, c, d1, dd, -⟩ := HX.out.1.hdr HX.out.2.1 hlt (by omega)
          have d2 := dd t hltn
          replace d1 := hE3.cell (hE0.cell d1)
          replace d2 := hE3.cell (hE0.cell d2)
          clear dd
          by_cases s4 : ent x k t = -1000000000000000
          · have hnext : Hid (FillD (shiftE x num den) (ent x) x.length x.length (fun i j => i < k ∨ (i = k ∧ j < t + 1)) M3) := hF3.out.swap (fun i j _ _ hd => ⟨rfl, by omega⟩) (fun i j _ _ hd => by
              by_cases e : i < k ∨ (i = k ∧ j < t)
              · exact .inl e
              · refine .inr ⟨?_, e⟩
                obtain ⟨rfl, rfl⟩ : i = k ∧ j = t := by omega
                unfold shiftE; rw [if_pos s4]; exact s4)
            rw [s4] at d2
            clear s4 hF3
            go_wp2
            go_roundw
            case rel => exact ⟨t + 1, M3, by omega, by go_num, hE3, hM3, hnext⟩
            case measure => simp [intOf]; omega
          · have hs4 : (ent x k t == -1000000000000000) = false := by simpa using s4
            have hs4' : (ent x k t != -1000000000000000) = true := by simpa using s4
            have hbb := isSq_ebd1 HX.out.2.2 s4
            obtain ⟨hb, hw1, hw2⟩ := sh_wrap hd hbb hn
            have hv : shiftE x num den k t = den * ent x k t - num := by unfold shiftE; rw [if_neg s4]
            have hkM : k < M3.length := by rw [hF3.out.1.1]; exact hlt
            have hrk : (row M3 k).length = x.length := hF3.out.1.2 k hlt
            have c1 := hM3.cell hkM
            obtain ⟨r, hA, hBr, hrs, hce, hfe⟩ := hM3.addr hkM (by rw [hrk]; omega)
            have c2 := hce t (by rw [hrk]; exact hltn)
            have f2 := hfe t
            rw [hrk, hA] at c1
            have hset := fun z => hM3.set hkM hA t z
            have hset := Lib.hid hset
            have hnext := hF3.out.step (D' := fun i j => i < k ∨ (i = k ∧ j < t + 1)) hlt hltn fun i j _ _ => by omega
            rw [hv] at hnext
            have hnext := Lib.hid hnext
            have b0 := hE3.cell HBB.out.c0
            have b1 := hE3.cell HBB.out.c1
            clear hce hfe hrk hA hF3 hv s4
            generalize ent x k t = z at *
            go_wp2_with fail
            refine region_qt_lit 19 (by kernel_rfl) (by kernel_rfl) ?_
            simp only [List.take_succ_cons, List.take_zero, List.drop_succ_cons, List.drop_zero]
            repeat (go_big_quiet_step ((fail)))
            refine wpQuiet_nil ?_
            intro _ hw'
            obtain ⟨nq, hw''⟩ := hw'
            subst hw''
            go_wp2
            go_roundw
            case rel =>
              refine ⟨t + 1, _, by omega, by go_num, ?_, ?_, hnext.out⟩
              · repeat (first | exact hE3 | refine Ext.drewN ?_ _ | refine Ext.drew ?_ | refine Ext.set ?_ hBr _)
              · exact (hset.out _).ext ⟨rfl, rfl, rfl, Nat.le_refl _, fun _ _ => rfl⟩
            case measure => simp [intOf]; omega
        · obtain rfl : x.length = t := by omega
          go_wp2
          go_roundw
          case rel => exact ⟨k + 1, M3, by omega, by go_num, hE3, hM3, hF3.out.congr fun i j _ _ => by omega⟩
          case measure => simp [intOf]; omega
    · obtain rfl : x.length = k := by omega
      have e := hF.out.done fun i j hi hj => hi
      go_wp2
      go_ret
      have hl : (shiftM x num den).length = x.length := mkMat_len _ _ _
      subst e
      exact (hM2.mono hE0.size).give (hE0.trans hE2) hl rfl
end Go.Proofs.Ytokhkpbebimohaa

/- Contracts of isPotential, l04Holds, and of the parts of StretchMatrix and ShiftMatrix. Conditions: the forms of the matrices. -/
namespace Go.Proofs.Ytokhkpbebimohaa
set_option linter.unusedVariables false
set_option linter.unusedSimpArgs false
open Go.RowKit

/-- x is a potential of the shifted matrix -/
def potAt (x : List (List Int)) (num den : Int) (xs : List Int) (i j : Nat) : Bool := shiftE x num den i j == -1000000000000000 || decide (shiftE x num den i j + nth xs j ≤ nth xs i)
def potB (x : List (List Int)) (num den : Int) (xs : List Int) : Bool := (List.range x.length).all fun i => (List.range x.length).all fun j => potAt x num den xs i j
theorem potB_iff {x : List (List Int)} {num den : Int} {xs : List Int} : potB x num den xs = true ↔ ∀ i j, i < x.length → j < x.length → potAt x num den xs i j = true := by
  unfold potB
  simp only [List.all_eq_true, List.mem_range]
  exact ⟨fun h i j hi hj => h i hi j hj, fun h i hi j hj => h i j hi hj⟩
theorem potB_no {x : List (List Int)} {num den : Int} {xs : List Int} {i j : Nat} (hi : i < x.length) (hj : j < x.length) (h : potAt x num den xs i j = false) : potB x num den xs = false := by
  cases e : potB x num den xs
  · rfl
  · have := potB_iff.1 e i j hi hj; rw [h] at this; cases this
def potL (x : List (List Int)) (num den : Int) (xs : List Int) : Bool := (xs.length == x.length) && inAll (-1000000) 1000000 xs && potB x num den xs
def isPotV (x : List (List Int)) (r : Int × Int) (xs : List Int) : Bool := isSq x && isRat r && potL x r.1 r.2 xs
theorem allF_in (xs : List Int) : allF xs = inAll (-1000000) 1000000 xs := rfl
theorem isRat_bd2 {r : Int × Int} (h : isRat r = true) : (-1000000 ≤ r.1 ∧ r.1 ≤ 1000000) ∧ (1 ≤ r.2 ∧ r.2 ≤ 1000000) := by
  unfold isRat at h
  simp only [Bool.and_eq_true, fin_iff, inR_iff] at h
  exact ⟨h.1.1, h.1.2⟩
theorem shiftM_ent {x : List (List Int)} {num den : Int} {i j : Nat} (hi : i < x.length) (hj : j < x.length) : ent (shiftM x num den) i j = shiftE x num den i j := mkMat_ent hi hj
theorem shiftM_rect (x : List (List Int)) (num den : Int) : Rect (shiftM x num den) x.length x.length := rect_mk _ _ _
/-- both bounds of a sum in the loop -/
theorem pot_wrap {z u : Int} (hz : -1000001000000 ≤ z ∧ z ≤ 1000001000000) (hu : -1000000 ≤ u ∧ u ≤ 1000000) : IntKind.i64.wrap (z + u) = z + u := IntWalk.i64_in _ (by omega)

set_option maxHeartbeats 1000000 in
theorem isPotential_c (a b : Option Addr) (ca cb : Nat) (x : List (List Int)) (num den : Int) (xs : List Int) (w : World) (hx : MatAt w a x) (hs : isSq x = true) (hy : IntsAt w b xs) (hn : -1000000 ≤ num ∧ num ≤ 1000000) (hd : -1000000 ≤ den ∧ den ≤ 1000000) :
    Calls Try.prog 122 #[.slice a x.length ca, .agg #[.int .i64 num, .int .i64 den], .slice b xs.length cb] w fun e w' => e = .returned (.bool (potL x num den xs)) ∧ Ext w w' := by
  obtain ⟨rx, hl1, hl2⟩ := isSq_rect hs
  obtain ⟨W, hW, HB, hs2, hE0⟩ := alloc2_facts w (.int .i64 num) (.int .i64 den) 55
  have hxl := hx.len
  have hyl := hy.len
  by_cases hl : xs.length = x.length
  · have hl' : ((xs.length : Int) != (x.length : Int)) = false := by simp [hl]
    cases hf : inAll (-1000000) 1000000 xs
    · have e : potL x num den xs = false := by simp [potL, hf]
      rw [e]; clear e
      have hy' := hy.mono hE0
      clear hl
      go_enter Try.func122, Try.ntmps122
      go_wp2_with fail
      refine (asB hf (allWithin_c _ _ _ _ _ _ hy')).mono ?_
      rintro e w1 ⟨rfl, rfl⟩
      go_wp2
      go_ret
      exact ⟨rfl, hE0⟩
    have e : potL x num den xs = potB x num den xs := by simp [potL, hf, hl]
    have He := Lib.hid e
    clear e
    obtain ⟨c0, c1, -, -⟩ := HB
    obtain ⟨p2, o2, rfl⟩ := hy.base (by omega)
    have HX := Lib.hid (And.intro hx (And.intro hs (And.intro (hy.mono hE0) (And.intro hf hl))))
    clear rx hx hs hy hf hl
    go_enter Try.func122, Try.ntmps122
    go_wp2_with fail
    refine (asB HX.out.2.2.2.1 (allWithin_c _ _ _ _ _ _ HX.out.2.2.1)).mono ?_
    rintro e w1 ⟨rfl, rfl⟩
    go_wp2_with fail
    refine (shifted_c _ _ _ _ _ _ (HX.out.1.mono hE0) HX.out.2.1 hn hd).mono ?_
    rintro e w1 ⟨a1, cap1, rfl, hO, hE1⟩
    have hmat := Lib.hid hO.mat
    have hml : (shiftM x num den).length = x.length := mkMat_len _ _ _
    rw [hml]
    obtain ⟨p, o, rfl⟩ := hmat.out.base (by omega)
    clear hO c0 c1 hml
    go_wp2
    go_loopw [25] (fun i wr => ∃ k : Nat, k ≤ x.length ∧ i = .int .i64 k ∧ Qt w1 wr ∧ Hid (∀ i j, i < k → j < x.length → potAt x num den xs i j = true)) (fun i _ => x.length - (intOf i).toNat)
    case atStart => exact ⟨0, Nat.zero_le _, rfl, Qt.refl _, fun i j hi => absurd hi (Nat.not_lt_zero _)⟩
    case round =>
      obtain ⟨k, hk, rfl, hq, hj⟩ := hrel
      by_cases hlt : k < x.length
      · obtain ⟨q, o3, c, d1, dd, -⟩ := hmat.out.hdr (shiftM_rect _ _ _) hlt (by omega)
        replace d1 := hq.ext.cell d1
        have DD := Lib.hid dd
        clear dd
        go_wp2
        clear d1
        go_loopw [32] (fun i wr => ∃ t : Nat, t ≤ x.length ∧ i = .int .i64 t ∧ Qt w1 wr ∧ Hid (∀ j, j < t → potAt x num den xs k j = true)) (fun i _ => x.length - (intOf i).toNat)
        case atStart => exact ⟨0, Nat.zero_le _, rfl, hq, fun j hj => absurd hj (Nat.not_lt_zero _)⟩
        case round =>
          obtain ⟨t, ht, rfl, hq2, hj2⟩ := hrel
          by_cases hltn : t < x.length
          · have d2 := hq2.ext.cell (DD.out t hltn)
            rw [shiftM_ent hlt hltn] at d2
            have e1 := hq2.ext.cell (hE1.cell (HX.out.2.2.1.cell (i := t) (by have := HX.out.2.2.2.2; omega)))
            have e2 := hq2.ext.cell (hE1.cell (HX.out.2.2.1.cell (i := k) (by have := HX.out.2.2.2.2; omega)))
            have hu1 := inR_iff.1 (inAll_iff.1 HX.out.2.2.2.1 t (by have := HX.out.2.2.2.2; omega))
            have hu2 := inR_iff.1 (inAll_iff.1 HX.out.2.2.2.1 k (by have := HX.out.2.2.2.2; omega))
            have hlx : xs.length = x.length := HX.out.2.2.2.2
            have hpa : potAt x num den xs k t = (shiftE x num den k t == -1000000000000000 || decide (shiftE x num den k t + nth xs t ≤ nth xs k)) := rfl
            have hz := shiftE_bd HX.out.2.1 hn hd hlt hltn
            generalize shiftE x num den k t = z at *
            generalize nth xs t = u at *
            generalize nth xs k = v at *
            by_cases s4 : z = -1000000000000000
            · subst s4
              have hpa' : potAt x num den xs k t = true := by rw [hpa]; rfl
              have Hp := Lib.hid hpa'
              clear hpa hpa' hz
              go_wp2_with fail
              go_big_quiet (fail)
              go_wp2
              go_roundw
              case rel => exact ⟨t + 1, by omega, by go_num, hq2.drewN _, fun j h => by
                by_cases e : j = t
                · subst e; exact Hp.out
                · exact hj2.out j (by omega)⟩
              case measure => simp [intOf]; omega
            · have hs4 : (z == -1000000000000000) = false := by simpa using s4
              have hs4' : (z != -1000000000000000) = true := by simpa using s4
              have hz2 : -1000001000000 ≤ z ∧ z ≤ 1000001000000 := by rcases hz with e | e; exact absurd e s4; exact e
              have hw1 := pot_wrap hz2 hu1
              rw [hs4, Bool.false_or] at hpa
              by_cases s5 : z + u ≤ v
              · have hpa' : potAt x num den xs k t = true := by rw [hpa]; exact decide_eq_true s5
                have Hp := Lib.hid hpa'
                clear hpa hpa' hz s4
                go_wp2_with fail
                go_big_quiet (fail)
                go_wp2
                go_roundw
                case rel => exact ⟨t + 1, by omega, by go_num, hq2.drewN _, fun j h => by
                  by_cases e : j = t
                  · subst e; exact Hp.out
                  · exact hj2.out j (by omega)⟩
                case measure => simp [intOf]; omega
              · have hpa' : potAt x num den xs k t = false := by rw [hpa]; exact decide_eq_false s5
                have Hp := Lib.hid (potB_no hlt hltn hpa')
                have s6 : v < z + u := by omega
                clear hpa hpa' hz s4 s5
                go_wp2_with fail
                go_big_quiet (fail)
                go_wp2
                go_ret
                exact ⟨ret_bool (by rw [He.out, Hp.out]), (hE0.trans hE1).qt (hq2.drewN _)⟩
          · obtain rfl : x.length = t := by omega
            go_wp2
            go_roundw
            case rel => exact ⟨k + 1, by omega, by go_num, hq2, fun i j hi hjj => by
              by_cases e : i = k
              · subst e; exact hj2.out j hjj
              · exact hj.out i j (by omega) hjj⟩
            case measure => simp [intOf]; omega
      · go_wp2
        go_ret
        exact ⟨ret_bool (by rw [He.out, potB_iff.2 fun i j hi hjj => hj.out i j (by omega) hjj]), (hE0.trans hE1).qt hq⟩
  · have hl' : ((xs.length : Int) != (x.length : Int)) = true := by simp; omega
    have e : potL x num den xs = false := by unfold potL; rw [show (xs.length == x.length) = false by simpa using hl]; rfl
    rw [e]; clear e
    clear hl
    go_enter Try.func122, Try.ntmps122
    go_wp2
    go_ret
    exact ⟨rfl, hE0⟩
set_option maxHeartbeats 1000000 in
theorem l04Holds_c (a b : Option Addr) (ca cb : Nat) (x : List (List Int)) (num den : Int) (xs : List Int) (w : World) (hx : MatAt w a x) (hs : isSq x = true) (hy : IntsAt w b xs) (hn : -1000000 ≤ num ∧ num ≤ 1000000) (hd : -1000000 ≤ den ∧ den ≤ 1000000) :
    Calls Try.prog 123 #[.slice a x.length ca, .agg #[.int .i64 num, .int .i64 den], .slice b xs.length cb] w fun e w' => e = .returned (.bool (potL x num den xs)) ∧ Ext w w' := by
  obtain ⟨rx, hl1, hl2⟩ := isSq_rect hs
  obtain ⟨W, hW, HB, hs2, hE0⟩ := alloc2_facts w (.int .i64 num) (.int .i64 den) 55
  have hxl := hx.len
  have hyl := hy.len
  by_cases hl : xs.length = x.length
  · have hl' : ((xs.length : Int) != (x.length : Int)) = false := by simp [hl]
    cases hf : inAll (-1000000) 1000000 xs
    · have e : potL x num den xs = false := by simp [potL, hf]
      rw [e]; clear e
      have hy' := hy.mono hE0
      clear hl
      go_enter Try.func123, Try.ntmps123
      go_wp2_with fail
      refine (asB hf (l01AllF_c _ _ _ _ hy')).mono ?_
      rintro e w1 ⟨rfl, rfl⟩
      go_wp2
      go_ret
      exact ⟨rfl, hE0⟩
    have e : potL x num den xs = potB x num den xs := by simp [potL, hf, hl]
    have He := Lib.hid e
    clear e
    obtain ⟨c0, c1, -, -⟩ := HB
    obtain ⟨p2, o2, rfl⟩ := hy.base (by omega)
    have HX := Lib.hid (And.intro hx (And.intro hs (And.intro (hy.mono hE0) (And.intro hf hl))))
    clear rx hx hs hy hf hl
    go_enter Try.func123, Try.ntmps123
    go_wp2_with fail
    refine (asB HX.out.2.2.2.1 (l01AllF_c _ _ _ _ HX.out.2.2.1)).mono ?_
    rintro e w1 ⟨rfl, rfl⟩
    go_wp2_with fail
    refine (l04Shift_c _ _ _ _ _ _ (HX.out.1.mono hE0) HX.out.2.1 hn hd).mono ?_
    rintro e w1 ⟨a1, cap1, rfl, hO, hE1⟩
    have hmat := Lib.hid hO.mat
    have hml : (shiftM x num den).length = x.length := mkMat_len _ _ _
    rw [hml]
    obtain ⟨p, o, rfl⟩ := hmat.out.base (by omega)
    clear hO c0 c1 hml
    go_wp2
    go_loopw [8] (fun i wr => ∃ k : Nat, k ≤ x.length ∧ i = .int .i64 k ∧ Qt w1 wr ∧ Hid (∀ i j, i < k → j < x.length → potAt x num den xs i j = true)) (fun i _ => x.length - (intOf i).toNat)
    case atStart => exact ⟨0, Nat.zero_le _, rfl, Qt.refl _, fun i j hi => absurd hi (Nat.not_lt_zero _)⟩
    case round =>
      obtain ⟨k, hk, rfl, hq, hj⟩ := hrel
      by_cases hlt : k < x.length
      · obtain ⟨q, o3, c, d1, dd, -⟩ := hmat.out.hdr (shiftM_rect _ _ _) hlt (by omega)
        have D1 := Lib.hid d1
        have DD := Lib.hid dd
        clear dd d1
        go_wp2
        go_loopw [9] (fun i wr => ∃ t : Nat, t ≤ x.length ∧ i = .int .i64 t ∧ Qt w1 wr ∧ Hid (∀ j, j < t → potAt x num den xs k j = true)) (fun i _ => x.length - (intOf i).toNat)
        case atStart => exact ⟨0, Nat.zero_le _, rfl, hq, fun j hj => absurd hj (Nat.not_lt_zero _)⟩
        case round =>
          obtain ⟨t, ht, rfl, hq2, hj2⟩ := hrel
          by_cases hltn : t < x.length
          · have d1 := hq2.ext.cell D1.out
            have d2 := hq2.ext.cell (DD.out t hltn)
            rw [shiftM_ent hlt hltn] at d2
            have e1 := hq2.ext.cell (hE1.cell (HX.out.2.2.1.cell (i := t) (by have := HX.out.2.2.2.2; omega)))
            have e2 := hq2.ext.cell (hE1.cell (HX.out.2.2.1.cell (i := k) (by have := HX.out.2.2.2.2; omega)))
            have hu1 := inR_iff.1 (inAll_iff.1 HX.out.2.2.2.1 t (by have := HX.out.2.2.2.2; omega))
            have hu2 := inR_iff.1 (inAll_iff.1 HX.out.2.2.2.1 k (by have := HX.out.2.2.2.2; omega))
            have hlx : xs.length = x.length := HX.out.2.2.2.2
            have hpa : potAt x num den xs k t = (shiftE x num den k t == -1000000000000000 || decide (shiftE x num den k t + nth xs t ≤ nth xs k)) := rfl
            have hz := shiftE_bd HX.out.2.1 hn hd hlt hltn
            generalize shiftE x num den k t = z at *
            generalize nth xs t = u at *
            generalize nth xs k = v at *
            by_cases s4 : z = -1000000000000000
            · subst s4
              have hpa' : potAt x num den xs k t = true := by rw [hpa]; rfl
              have Hp := Lib.hid hpa'
              clear hpa hpa' hz
              go_wp2_with fail
              go_big_quiet (fail)
              go_wp2
              go_roundw
              case rel => exact ⟨t + 1, by omega, by go_num, hq2.drewN _, fun j h => by
                by_cases e : j = t
                · subst e; exact Hp.out
                · exact hj2.out j (by omega)⟩
              case measure => simp [intOf]; omega
            · have hs4 : (z == -1000000000000000) = false := by simpa using s4
              have hs4' : (z != -1000000000000000) = true := by simpa using s4
              have hz2 : -1000001000000 ≤ z ∧ z ≤ 1000001000000 := by rcases hz with e | e; exact absurd e s4; exact e
              have hw1 := pot_wrap hz2 hu1
              rw [hs4, Bool.false_or] at hpa
              by_cases s5 : z + u ≤ v
              · have hpa' : potAt x num den xs k t = true := by rw [hpa]; exact decide_eq_true s5
                have Hp := Lib.hid hpa'
                clear hpa hpa' hz s4
                go_wp2_with fail
                go_big_quiet (fail)
                go_wp2
                go_roundw
                case rel => exact ⟨t + 1, by omega, by go_num, hq2.drewN _, fun j h => by
                  by_cases e : j = t
                  · subst e; exact Hp.out
                  · exact hj2.out j (by omega)⟩
                case measure => simp [intOf]; omega
              · have hpa' : potAt x num den xs k t = false := by rw [hpa]; exact decide_eq_false s5
                have Hp := Lib.hid (potB_no hlt hltn hpa')
                have s6 : v < z + u := by omega
                clear hpa hpa' hz s4 s5
                go_wp2_with fail
                go_big_quiet (fail)
                go_wp2
                go_ret
                exact ⟨ret_bool (by rw [He.out, Hp.out]), (hE0.trans hE1).qt (hq2.drewN _)⟩
          · obtain rfl : x.length = t := by omega
            go_wp2
            go_roundw
            case rel => exact ⟨k + 1, by omega, by go_num, hq2, fun i j hi hjj => by
              by_cases e : i = k
              · subst e; exact hj2.out j hjj
              · exact hj.out i j (by omega) hjj⟩
            case measure => simp [intOf]; omega
      · go_wp2
        go_ret
        exact ⟨ret_bool (by rw [He.out, potB_iff.2 fun i j hi hjj => hj.out i j (by omega) hjj]), (hE0.trans hE1).qt hq⟩
  · have hl' : ((xs.length : Int) != (x.length : Int)) = true := by simp; omega
    have e : potL x num den xs = false := by unfold potL; rw [show (xs.length == x.length) = false by simpa using hl]; rfl
    rw [e]; clear e
    clear hl
    go_enter Try.func123, Try.ntmps123
    go_wp2
    go_ret
    exact ⟨rfl, hE0⟩

theorem implPot_c (a b : Option Addr) (ca cb : Nat) (x : List (List Int)) (num den : Int) (xs : List Int) (w : World) (hx : MatAt w a x) (hy : IntsAt w b xs) :
    Calls Try.prog 58 #[.slice a x.length ca, .agg #[.int .i64 num, .int .i64 den], .slice b xs.length cb] w fun e w' => e = .returned (.bool (isPotV x (num, den) xs)) ∧ Ext w w' := by
  obtain ⟨W, hW, HB, hs2, hE0⟩ := alloc2_facts w (.int .i64 num) (.int .i64 den) 55
  obtain ⟨c0, c1, -, -⟩ := HB
  cases hs : isSq x
  · have e : isPotV x (num, den) xs = false := by simp [isPotV, hs]
    rw [e]; clear e
    have HX := Lib.hid hx
    clear hx
    go_enter Try.func58, Try.ntmps58
    go_wp2_with fail
    refine (asB hs (isSquare_c _ _ _ _ (HX.out.mono hE0))).mono ?_
    rintro e w1 ⟨rfl, E1⟩
    go_wp2
    go_ret
    exact ⟨rfl, hE0.trans E1⟩
  cases hr : isRat (num, den)
  · have e : isPotV x (num, den) xs = false := by simp [isPotV, hr]
    rw [e]; clear e
    have HX := Lib.hid hx
    clear hx
    go_enter Try.func58, Try.ntmps58
    go_wp2_with fail
    refine (asB hs (isSquare_c _ _ _ _ (HX.out.mono hE0))).mono ?_
    rintro e w1 ⟨rfl, E1⟩
    replace E1 := E1
    replace c0 := E1.cell c0
    replace c1 := E1.cell c1
    go_wp2_with fail
    refine (asB hr (isRatio_c _ _ _)).mono ?_
    rintro e w2 ⟨rfl, E2⟩
    replace c0 := E2.cell c0
    replace c1 := E2.cell c1
    go_wp2
    go_ret
    exact ⟨rfl, (hE0.trans E1).trans E2⟩
  have e : isPotV x (num, den) xs = potL x num den xs := by simp [isPotV, hs, hr]
  rw [e]; clear e
  obtain ⟨hb1, hb2⟩ := isRat_bd2 hr
  simp only at hb1 hb2
  have HX := Lib.hid (And.intro hx (And.intro hy hs))
  clear hx hy
  go_enter Try.func58, Try.ntmps58
  go_wp2_with fail
  refine (asB hs (isSquare_c _ _ _ _ (HX.out.1.mono hE0))).mono ?_
  rintro e w1 ⟨rfl, E1⟩
  replace E1 := E1
  replace c0 := E1.cell c0
  replace c1 := E1.cell c1
  go_wp2_with fail
  refine (asB hr (isRatio_c _ _ _)).mono ?_
  rintro e w2 ⟨rfl, E2⟩
  replace c0 := E2.cell c0
  replace c1 := E2.cell c1
  have E := (hE0.trans E1).trans E2
  go_wp2_with fail
  refine (isPotential_c _ _ _ _ _ _ _ _ _ (HX.out.1.mono E) HX.out.2.2 (HX.out.2.1.mono E) hb1 (by omega)).mono ?_
  rintro e w3 ⟨rfl, E3⟩
  go_wp2
  go_ret
  exact ⟨rfl, E.trans E3⟩

theorem specPot_c (a b : Option Addr) (ca cb : Nat) (x : List (List Int)) (num den : Int) (xs : List Int) (w : World) (hx : MatAt w a x) (hy : IntsAt w b xs) :
    Calls Try.prog 59 #[.slice a x.length ca, .agg #[.int .i64 num, .int .i64 den], .slice b xs.length cb] w fun e w' => e = .returned (.bool (isPotV x (num, den) xs)) ∧ Ext w w' := by
  obtain ⟨W, hW, HB, hs2, hE0⟩ := alloc2_facts w (.int .i64 num) (.int .i64 den) 55
  obtain ⟨c0, c1, -, -⟩ := HB
  cases hs : isSq x
  · have e : isPotV x (num, den) xs = false := by simp [isPotV, hs]
    rw [e]; clear e
    have HX := Lib.hid hx
    clear hx
    go_enter Try.func59, Try.ntmps59
    go_wp2_with fail
    refine (asB hs (l02Square_c _ _ _ _ (HX.out.mono hE0))).mono ?_
    rintro e w1 ⟨rfl, E1⟩
    go_wp2
    go_ret
    exact ⟨rfl, hE0.trans E1.ext⟩
  cases hr : isRat (num, den)
  · have e : isPotV x (num, den) xs = false := by simp [isPotV, hr]
    rw [e]; clear e
    have HX := Lib.hid hx
    clear hx
    go_enter Try.func59, Try.ntmps59
    go_wp2_with fail
    refine (asB hs (l02Square_c _ _ _ _ (HX.out.mono hE0))).mono ?_
    rintro e w1 ⟨rfl, E1⟩
    replace E1 := E1.ext
    replace c0 := E1.cell c0
    replace c1 := E1.cell c1
    go_wp2_with fail
    refine (asB hr (sIsRatio_c _ _ _)).mono ?_
    rintro e w2 ⟨rfl, E2⟩
    replace c0 := E2.cell c0
    replace c1 := E2.cell c1
    go_wp2
    go_ret
    exact ⟨rfl, (hE0.trans E1).trans E2⟩
  have e : isPotV x (num, den) xs = potL x num den xs := by simp [isPotV, hs, hr]
  rw [e]; clear e
  obtain ⟨hb1, hb2⟩ := isRat_bd2 hr
  simp only at hb1 hb2
  have HX := Lib.hid (And.intro hx (And.intro hy hs))
  clear hx hy
  go_enter Try.func59, Try.ntmps59
  go_wp2_with fail
  refine (asB hs (l02Square_c _ _ _ _ (HX.out.1.mono hE0))).mono ?_
  rintro e w1 ⟨rfl, E1⟩
  replace E1 := E1.ext
  replace c0 := E1.cell c0
  replace c1 := E1.cell c1
  go_wp2_with fail
  refine (asB hr (sIsRatio_c _ _ _)).mono ?_
  rintro e w2 ⟨rfl, E2⟩
  replace c0 := E2.cell c0
  replace c1 := E2.cell c1
  have E := (hE0.trans E1).trans E2
  go_wp2_with fail
  refine (l04Holds_c _ _ _ _ _ _ _ _ _ (HX.out.1.mono E) HX.out.2.2 (HX.out.2.1.mono E) hb1 (by omega)).mono ?_
  rintro e w3 ⟨rfl, E3⟩
  go_wp2
  go_ret
  exact ⟨rfl, E.trans E3⟩

end Go.Proofs.Ytokhkpbebimohaa

/- Contracts of shifting a square matrix by a ratio, with wider bounds. Conditions: the forms of the matrices, the bounds of the ratio. -/
namespace Go.Proofs.Ytokhkpbebimohaa
set_option linter.unusedVariables false
set_option linter.unusedSimpArgs false
open Go.RowKit

theorem sh_wrapW {den e num : Int} (hd : -1000000 ≤ den ∧ den ≤ 1000000) (he : -1000000 ≤ e ∧ e ≤ 1000000) (hn : -100000000 ≤ num ∧ num ≤ 100000000) :
    (-1000000000000 ≤ den * e ∧ den * e ≤ 1000000000000) ∧ IntKind.i64.wrap (den * e) = den * e ∧ IntKind.i64.wrap (den * e - num) = den * e - num := by
  have h := mul_bd hd he
  exact ⟨by omega, IntWalk.i64_in _ (by omega), IntWalk.i64_in _ (by omega)⟩

theorem shiftF_cW (b1 b2 : Nat) (a : Option Addr) (ca : Nat) (x : List (List Int)) (num den : Int) (i j : Nat) (w : World) (h1 : w.cell? ⟨b1, 0, none⟩ = some (.slice a x.length ca)) (h2 : w.cell? ⟨b2, 0, none⟩ = some (.int .i64 num)) (h3 : w.cell? ⟨b2, 1, none⟩ = some (.int .i64 den))
    (hx : MatAt w a x) (hs : isSq x = true) (hi : i < x.length) (hj : j < x.length) (hn : -100000000 ≤ num ∧ num ≤ 100000000) (hd : -1000000 ≤ den ∧ den ≤ 1000000) :
    Calls Try.prog 156 #[.int .i64 (i : Int), .int .i64 (j : Int), .pointer (some ⟨b1, 0, none⟩), .pointer (some ⟨b2, 0, none⟩)] w fun e w' => e = .returned (.int .i64 (shiftE x num den i j)) ∧ Qt w w' := by
  obtain ⟨rx, hl1, hl2⟩ := isSq_rect hs
  obtain ⟨p, o, rfl⟩ := hx.base (by omega)
  obtain ⟨q, o2, c, d1, dd, -⟩ := hx.hdr rx hi (by omega)
  have d2 := dd j hj
  have hxl := hx.len
  clear dd rx
  unfold shiftE
  by_cases s4 : ent x i j = -1000000000000000
  · rw [if_pos s4]
    rw [s4] at d2
    clear hx hs s4
    go_enter Try.func156, Try.ntmps156
    go_wp2
    go_ret
    exact ⟨rfl, Qt.refl _⟩
  · rw [if_neg s4]
    have hs4 : (ent x i j == -1000000000000000) = false := by simpa using s4
    obtain ⟨hb, hw1, hw2⟩ := sh_wrapW hd (isSq_ebd1 hs s4) hn
    clear hx hs s4
    generalize ent x i j = z at *
    go_enter Try.func156, Try.ntmps156
    go_wp2_with fail
    go_big_quiet (fail)
    go_wp2
    go_ret
    exact ⟨ret_int (by simp only [hw1, hw2]), (Qt.refl _).drewN _⟩
theorem shiftF_enterW (args : Array Value) (w : World) : Sem.run Try.prog (callFunc 156 args) w = .ok (.enter 156 args) w := by
  simp [callFunc, Try.func156, Try.f156]

theorem shifted_cW (a : Option Addr) (ca : Nat) (x : List (List Int)) (num den : Int) (w : World) (hx : MatAt w a x) (hs : isSq x = true) (hn : -100000000 ≤ num ∧ num ≤ 100000000) (hd : -1000000 ≤ den ∧ den ≤ 1000000) :
    Calls Try.prog 121 #[.slice a x.length ca, .agg #[.int .i64 num, .int .i64 den]] w (GivesM w (shiftM x num den)) := by
  obtain ⟨rx, hl1, hl2⟩ := isSq_rect hs
  obtain ⟨W1, hW1⟩ : ∃ W, w.alloc (.cells #[.slice a x.length ca] 24) = W := ⟨_, rfl⟩
  have hE1 : Ext w W1 := by rw [← hW1]; exact (Ext.refl w).alloc _
  have hb1 : W1.cell? ⟨w.heap.size, 0, none⟩ = some (.slice a x.length ca) := by rw [← hW1]; simp
  obtain ⟨W, hW, HB, hs2, hE2⟩ := alloc2_facts W1 (.int .i64 num) (.int .i64 den) 55
  have hb1' := hE2.cell hb1
  have hE := hE1.trans hE2
  have hx' := hx.mono hE
  have H := Lib.hid (fun (W' : World) (hq : Ext W W') => matrixBy_c 156 #[.pointer (some ⟨w.heap.size, 0, none⟩), .pointer (some ⟨W1.heap.size, 0, none⟩)] x.length x.length (shiftE x num den) W' (by omega) (by omega) shiftF_enterW
    (fun i j w' hi hj hE' => shiftF_cW w.heap.size W1.heap.size a ca x num den i j w' (hE'.cell (hq.cell hb1')) (hE'.cell (hq.cell HB.c0)) (hE'.cell (hq.cell HB.c1)) ((hx'.mono hq).mono hE') hs hi hj hn hd))
  have hxl := hx.len
  clear hx hx' hE1 hE2 hb1 rx hs HB
  go_enter Try.func121, Try.ntmps121
  go_wp2_with fail
  refine (H.out _ (Ext.refl _)).mono ?_
  rintro e w' ⟨a', cap', rfl, h1, h2⟩
  go_wp2
  go_ret
  exact ⟨a', cap', rfl, h1.mono hE.size, hE.trans h2⟩

set_option maxHeartbeats 1000000 in
theorem l04Shift_cW (a : Option Addr) (ca : Nat) (x : List (List Int)) (num den : Int) (w : World) (hx : MatAt w a x) (hs : isSq x = true) (hn : -100000000 ≤ num ∧ num ≤ 100000000) (hd : -1000000 ≤ den ∧ den ≤ 1000000) :
    Calls Try.prog 118 #[.slice a x.length ca, .agg #[.int .i64 num, .int .i64 den]] w (GivesM w (shiftM x num den)) := by
  obtain ⟨rx, hl1, hl2⟩ := isSq_rect hs
  obtain ⟨W, hW, HB, hs2, hE0⟩ := alloc2_facts w (.int .i64 num) (.int .i64 den) 55
  obtain ⟨p, o, rfl⟩ := hx.base (by omega)
  have hxl := hx.len
  have HX := Lib.hid (And.intro hx (And.intro rx hs))
  have HBB := Lib.hid HB
  clear hx rx hs HB
  go_enter Try.func118, Try.ntmps118
  go_wp2_with fail
  refine (l02Own_c _ ca x _ (HX.out.1.mono hE0) (by omega) (fun i hi => by rw [HX.out.2.1.2 i hi]; omega)).mono ?_
  rintro e w1 ⟨a', cap, rfl, hO, hE⟩
  obtain ⟨g, A, C, rfl, hM⟩ := hO.open (by omega)
  clear hO
  go_wp2
  go_loopw [6] (fun i wr => ∃ (k : Nat) (M : List (List Int)), k ≤ x.length ∧ i = .int .i64 k ∧ Ext W wr ∧ Mat wr W.heap.size g cap A C M ∧ Hid (FillD (shiftE x num den) (ent x) x.length x.length (fun i j => i < k) M)) (fun i _ => x.length - (intOf i).toNat)
  case atStart => exact ⟨0, x, Nat.zero_le _, rfl, hE, hM, FillD.start HX.out.2.1 (fun i j _ _ => rfl) (fun i j _ _ => Nat.not_lt_zero _)⟩
  case round =>
    obtain ⟨k, M, hk, rfl, hE2, hM2, hF⟩ := hrel
    clear hE hM
    by_cases hlt : k < x.length
    · go_wp2
      go_loopw [7] (fun i wr => ∃ (t : Nat) (M : List (List Int)), t ≤ x.length ∧ i = .int .i64 t ∧ Ext W wr ∧ Mat wr W.heap.size g cap A C M ∧ Hid (FillD (shiftE x num den) (ent x) x.length x.length (fun i j => i < k ∨ (i = k ∧ j < t)) M)) (fun i _ => x.length - (intOf i).toNat)
      case atStart => exact ⟨0, M, Nat.zero_le _, rfl, hE2, hM2, hF.out.congr fun i j _ _ => by omega⟩
      case round =>
        obtain ⟨t, M3, ht, rfl, hE3, hM3, hF3⟩ := hrel
        clear hE2 hM2
        by_cases hltn : t < x.length
        · obtain ⟨q, o3, c, d1, dd, -⟩ := HX.out.1.hdr HX.out.2.1 hlt (by omega)
          have d2 := dd t hltn
          replace d1 := hE3.cell (hE0.cell d1)
          replace d2 := hE3.cell (hE0.cell d2)
          clear dd
          by_cases s4 : ent x k t = -1000000000000000
          · have hnext : Hid (FillD (shiftE x num den) (ent x) x.length x.length (fun i j => i < k ∨ (i = k ∧ j < t + 1)) M3) := hF3.out.swap (fun i j _ _ hd => ⟨rfl, by omega⟩) (fun i j _ _ hd => by
              by_cases e : i < k ∨ (i = k ∧ j < t)
              · exact .inl e
              · refine .inr ⟨?_, e⟩
                obtain ⟨rfl, rfl⟩ : i = k ∧ j = t := by omega
                unfold shiftE; rw [if_pos s4]; exact s4)
            rw [s4] at d2
            clear s4 hF3
            go_wp2
            go_roundw
            case rel => exact ⟨t + 1, M3, by omega, by go_num, hE3, hM3, hnext⟩
            case measure => simp [intOf]; omega
          · have hs4 : (ent x k t == -1000000000000000) = false := by simpa using s4
            have hs4' : (ent x k t != -1000000000000000) = true := by simpa using s4
            have hbb := isSq_ebd1 HX.out.2.2 s4
            obtain ⟨hb, hw1, hw2⟩ := sh_wrapW hd hbb hn
            have hv : shiftE x num den k t = den * ent x k t - num := by unfold shiftE; rw [if_neg s4]
            have hkM : k < M3.length := by rw [hF3.out.1.1]; exact hlt
            have hrk : (row M3 k).length = x.length := hF3.out.1.2 k hlt
            have c1 := hM3.cell hkM
            obtain ⟨r, hA, hBr, hrs, hce, hfe⟩ := hM3.addr hkM (by rw [hrk]; omega)
            have c2 := hce t (by rw [hrk]; exact hltn)
            have f2 := hfe t
            rw [hrk, hA] at c1
            have hset := fun z => hM3.set hkM hA t z
            have hset := Lib.hid hset
            have hnext := hF3.out.step (D' := fun i j => i < k ∨ (i = k ∧ j < t + 1)) hlt hltn fun i j _ _ => by omega
            rw [hv] at hnext
            have hnext := Lib.hid hnext
            have b0 := hE3.cell HBB.out.c0
            have b1 := hE3.cell HBB.out.c1
            clear hce hfe hrk hA hF3 hv s4
            generalize ent x k t = z at *
            go_wp2_with fail
            refine region_qt_lit 19 (by kernel_rfl) (by kernel_rfl) ?_
            simp only [List.take_succ_cons, List.take_zero, List.drop_succ_cons, List.drop_zero]
            repeat (go_big_quiet_step ((fail)))
            refine wpQuiet_nil ?_
            intro _ hw'
            obtain ⟨nq, hw''⟩ := hw'
            subst hw''
            go_wp2
            go_roundw
            case rel =>
              refine ⟨t + 1, _, by omega, by go_num, ?_, ?_, hnext.out⟩
              · repeat (first | exact hE3 | refine Ext.drewN ?_ _ | refine Ext.drew ?_ | refine Ext.set ?_ hBr _)
              · exact (hset.out _).ext ⟨rfl, rfl, rfl, Nat.le_refl _, fun _ _ => rfl⟩
            case measure => simp [intOf]; omega
        · obtain rfl : x.length = t := by omega
          go_wp2
          go_roundw
          case rel => exact ⟨k + 1, M3, by omega, by go_num, hE3, hM3, hF3.out.congr fun i j _ _ => by omega⟩
          case measure => simp [intOf]; omega
    · obtain rfl : x.length = k := by omega
      have e := hF.out.done fun i j hi hj => hi
      go_wp2
      go_ret
      have hl : (shiftM x num den).length = x.length := mkMat_len _ _ _
      subst e
      exact (hM2.mono hE0.size).give (hE0.trans hE2) hl rfl
end Go.Proofs.Ytokhkpbebimohaa
