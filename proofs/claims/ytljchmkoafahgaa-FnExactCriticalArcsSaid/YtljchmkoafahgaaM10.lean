/- Contracts of the walks along paths: spec.l03Walk, spec.l03Cycle, PathWeight. Conditions: the forms of the matrices, the lengths of the lists. -/
import Derived.Test.YtljchmkoafahgaaM9
import Derived.Test.YtljchmkoafahgaaM5
namespace Go.Proofs.Ytljchmkoafahgaa
set_option linter.unusedVariables false
set_option linter.unusedSimpArgs false
open Go.RowKit

theorem walkO_step {x : List (List Int)} {ys : List Int} {k : Nat} {t : Int} (h0 : 0 < k) (h : walkO x ys (k - 1) = some t) {u v : Nat} (hu : (nth ys k).toNat = u) (hv : (nth ys (k - 1)).toNat = v) :
    walkO x ys k = if ent x u v = -1000000000000000 then none else some (t + ent x u v) := by
  obtain ⟨j, rfl⟩ : ∃ j, k = j + 1 := ⟨k - 1, by omega⟩
  rw [Nat.add_sub_cancel] at h hv
  simp only [walkO]; rw [h]; simp only [hu, hv]

set_option maxHeartbeats 1000000 in
theorem l03Walk_c (a b : Option Addr) (ca cb : Nat) (x : List (List Int)) (ys : List Int) (w : World) (hx : MatAt w a x) (hs : isSq x = true) (hy : IntsAt w b ys) (hn : nodes x.length ys = true) (hl : ys.length ≤ 1048577) :
    Calls Try.prog 153 #[.slice a x.length ca, .slice b ys.length cb] w fun e w' => e = .returned (.tuple #[.int .i64 ((walkO x ys (ys.length - 1)).getD 0), .bool (walkO x ys (ys.length - 1)).isSome]) ∧ Qt w w' := by
  obtain ⟨rx, hn1, hn2⟩ := isSq_rect hs
  have HY := Lib.hid (And.intro hy (And.intro hx (And.intro rx (And.intro hs hn))))
  obtain ⟨p, o, rfl⟩ := hx.base (by omega)
  have hxl := hx.len
  clear hx hs hy rx hn
  go_enter Try.func153, Try.ntmps153
  go_wp2
  go_loopw [6, 7] (fun s i wr => ∃ (k : Nat) (t : Int), 1 ≤ k ∧ (k = 1 ∨ k ≤ ys.length) ∧ i = .int .i64 k ∧ s = .int .i64 t ∧ Qt w wr ∧ Hid (walkO x ys (k - 1) = some t)) (fun _ i _ => ys.length - (intOf i).toNat)
  case atStart => exact ⟨1, 0, Nat.le_refl _, .inl rfl, rfl, rfl, Qt.refl _, rfl⟩
  case round =>
    obtain ⟨k, t, hk1, hk, rfl, rfl, hq, hj⟩ := hrel
    by_cases hlt : k < ys.length
    · have hyi := HY.out.1.qt hq
      obtain ⟨p2, oo, rfl⟩ := hyi.base (by omega)
      have c1 := hyi.cell hlt
      have c2 := hyi.cell (i := k - 1) (by omega)
      have el : ((k : Int) - 1) = ((k - 1 : Nat) : Int) := by omega
      have s1 := nodes_iff.1 HY.out.2.2.2.2 k hlt
      have s2 := nodes_iff.1 HY.out.2.2.2.2 (k - 1) (by omega)
      obtain ⟨u, hu, hun, hut⟩ := node_nat (inR_iff.2 s1)
      obtain ⟨v, hv, hvn, hvt⟩ := node_nat (inR_iff.2 s2)
      obtain ⟨q, o2, c, d1, dd, -⟩ := (HY.out.2.1.qt hq).hdr HY.out.2.2.1 hun (Nat.lt_of_le_of_lt (Nat.zero_le _) hvn)
      have d2 := dd v hvn
      have hstep := walkO_step (by omega) hj.out hut hvt
      rw [hu] at c1
      rw [hv] at c2
      clear dd hyi s1 s2 hu hv hut hvt
      by_cases s4 : ent x u v = -1000000000000000
      · have hno : walkO x ys (ys.length - 1) = none := by
          rw [if_pos s4] at hstep
          have := walkO_none hstep (ys.length - 1 - k)
          rwa [show k + (ys.length - 1 - k) = ys.length - 1 by omega] at this
        have Hno := Lib.hid hno
        rw [s4] at d2
        clear hstep hno s4
        go_wp2_with fail
        go_big_quiet (fail)
        go_wp2
        go_ret2
        rw [Hno.out]; exact ⟨rfl, hq.drewN _⟩
      · rw [if_neg s4] at hstep
        have Hn := Lib.hid hstep
        have hbt := walkO_bd HY.out.2.2.2.1 hj.out
        have hbe := isSq_ebd1 HY.out.2.2.2.1 s4
        have hbt2 : -1048577000000 ≤ t ∧ t ≤ 1048577000000 := by omega
        have hs4 : (ent x u v == -1000000000000000) = false := by simpa using s4
        clear hstep hbt s4 hj
        generalize ent x u v = z at d2 hbe Hn hs4
        go_wp2_with fail
        go_big_quiet (fail)
        go_wp2
        go_roundw
        case rel => exact ⟨k + 1, t + z, by omega, by omega, by go_num, by first | rfl | go_num, hq.drewN _, by rw [Nat.add_sub_cancel]; exact Hn⟩
        case measure => simp [intOf]; omega
    · go_wp2
      go_ret2
      have e : k - 1 = ys.length - 1 := by omega
      rw [← e, hj.out]; exact ⟨rfl, hq⟩

end Go.Proofs.Ytljchmkoafahgaa
