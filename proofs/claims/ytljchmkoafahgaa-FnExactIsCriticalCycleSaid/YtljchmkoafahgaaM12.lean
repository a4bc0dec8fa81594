/- Contracts of shifting and stretching a square matrix. Conditions: the forms of the matrices, the bounds of the ratio. -/
import Derived.Test.YtljchmkoafahgaaM8
import Derived.IntWalk
namespace Go.Proofs.Ytljchmkoafahgaa
set_option linter.unusedVariables false
set_option linter.unusedSimpArgs false
open Go.RowKit

theorem sh_wrap {den e num : Int} (hd : -1000000 ≤ den ∧ den ≤ 1000000) (he : -1000000 ≤ e ∧ e ≤ 1000000) (hn : -1000000 ≤ num ∧ num ≤ 1000000) :
    (-1000000000000 ≤ den * e ∧ den * e ≤ 1000000000000) ∧ IntKind.i64.wrap (den * e) = den * e ∧ IntKind.i64.wrap (den * e - num) = den * e - num := by
  have h := mul_bd hd he
  exact ⟨by omega, IntWalk.i64_in _ (by omega), IntWalk.i64_in _ (by omega)⟩

theorem shiftF_c (b1 b2 : Nat) (a : Option Addr) (ca : Nat) (x : List (List Int)) (num den : Int) (i j : Nat) (w : World) (h1 : w.cell? ⟨b1, 0, none⟩ = some (.slice a x.length ca)) (h2 : w.cell? ⟨b2, 0, none⟩ = some (.int .i64 num)) (h3 : w.cell? ⟨b2, 1, none⟩ = some (.int .i64 den))
    (hx : MatAt w a x) (hs : isSq x = true) (hi : i < x.length) (hj : j < x.length) (hn : -1000000 ≤ num ∧ num ≤ 1000000) (hd : -1000000 ≤ den ∧ den ≤ 1000000) :
    Calls Try.prog 161 #[.int .i64 (i : Int), .int .i64 (j : Int), .pointer (some ⟨b1, 0, none⟩), .pointer (some ⟨b2, 0, none⟩)] w fun e w' => e = .returned (.int .i64 (shiftE x num den i j)) ∧ Qt w w' := by
  obtain ⟨rx, hl1, hl2⟩ := isSq_rect hs
  obtain ⟨p, o, rfl⟩ := hx.base (by omega)
  obtain ⟨q, o2, c, d1, dd, -⟩ := hx.hdr rx hi (by omega)
  have d2 := dd j hj
  have hxl := hx.len
  clear dd rx
  unfold shiftE
  by_cases s4 : ent x i j = -1000000000000000
  · rw [if_pos s4]
    rw [s4] at d2
    clear hx hs s4
    go_enter Try.func161, Try.ntmps161
    go_wp2
    go_ret
    exact ⟨rfl, Qt.refl _⟩
  · rw [if_neg s4]
    have hs4 : (ent x i j == -1000000000000000) = false := by simpa using s4
    obtain ⟨hb, hw1, hw2⟩ := sh_wrap hd (isSq_ebd1 hs s4) hn
    clear hx hs s4
    generalize ent x i j = z at *
    go_enter Try.func161, Try.ntmps161
    go_wp2_with fail
    go_big_quiet (fail)
    go_wp2
    go_ret
    exact ⟨ret_int (by simp only [hw1, hw2]), (Qt.refl _).drewN _⟩
theorem shiftF_enter (args : Array Value) (w : World) : Sem.run Try.prog (callFunc 161 args) w = .ok (.enter 161 args) w := by
  simp [callFunc, Try.func161, Try.f161]

theorem shifted_c (a : Option Addr) (ca : Nat) (x : List (List Int)) (num den : Int) (w : World) (hx : MatAt w a x) (hs : isSq x = true) (hn : -1000000 ≤ num ∧ num ≤ 1000000) (hd : -1000000 ≤ den ∧ den ≤ 1000000) :
    Calls Try.prog 135 #[.slice a x.length ca, .agg #[.int .i64 num, .int .i64 den]] w (GivesM w (shiftM x num den)) := by
  obtain ⟨rx, hl1, hl2⟩ := isSq_rect hs
  obtain ⟨W1, hW1⟩ : ∃ W, w.alloc (.cells #[.slice a x.length ca] 22) = W := ⟨_, rfl⟩
  have hE1 : Ext w W1 := by rw [← hW1]; exact (Ext.refl w).alloc _
  have hb1 : W1.cell? ⟨w.heap.size, 0, none⟩ = some (.slice a x.length ca) := by rw [← hW1]; simp
  obtain ⟨W, hW, HB, hs2, hE2⟩ := alloc2_facts W1 (.int .i64 num) (.int .i64 den) 25
  have hb1' := hE2.cell hb1
  have hE := hE1.trans hE2
  have hx' := hx.mono hE
  have H := Lib.hid (fun (W' : World) (hq : Ext W W') => matrixBy_c 161 #[.pointer (some ⟨w.heap.size, 0, none⟩), .pointer (some ⟨W1.heap.size, 0, none⟩)] x.length x.length (shiftE x num den) W' (by omega) (by omega) shiftF_enter
    (fun i j w' hi hj hE' => shiftF_c w.heap.size W1.heap.size a ca x num den i j w' (hE'.cell (hq.cell hb1')) (hE'.cell (hq.cell HB.c0)) (hE'.cell (hq.cell HB.c1)) ((hx'.mono hq).mono hE') hs hi hj hn hd))
  have hxl := hx.len
  clear hx hx' hE1 hE2 hb1 rx hs HB
  go_enter Try.func135, Try.ntmps135
  go_wp2_with fail
  refine (H.out _ (Ext.refl _)).mono ?_
  rintro e w' ⟨a', cap', rfl, h1, h2⟩
  go_wp2
  go_ret
  exact ⟨a', cap', rfl, h1.mono hE.size, hE.trans h2⟩

set_option maxHeartbeats 1000000 in
theorem l04Shift_c (a : Option Addr) (ca : Nat) (x : List (List Int)) (num den : Int) (w : World) (hx : MatAt w a x) (hs : isSq x = true) (hn : -1000000 ≤ num ∧ num ≤ 1000000) (hd : -1000000 ≤ den ∧ den ≤ 1000000) :
    Calls Try.prog 85 #[.slice a x.length ca, .agg #[.int .i64 num, .int .i64 den]] w (GivesM w (shiftM x num den)) := by
  obtain ⟨rx, hl1, hl2⟩ := isSq_rect hs
  obtain ⟨W, hW, HB, hs2, hE0⟩ := alloc2_facts w (.int .i64 num) (.int .i64 den) 25
  obtain ⟨p, o, rfl⟩ := hx.base (by omega)
  have hxl := hx.len
  have HX := Lib.hid (And.intro hx (And.intro rx hs))
  have HBB := Lib.hid HB
  clear hx rx hs HB
  go_enter Try.func85, Try.ntmps85
  go_wp2_with fail
  refine (l02Own_c _ ca x _ (HX.out.1.mono hE0) (by omega) (fun i hi => by rw [HX.out.2.1.2 i hi]; omega)).mono ?_
  rintro e w1 ⟨a', cap, rfl, hO, hE⟩
  obtain ⟨g, A, C, rfl, hM⟩ := hO.open (by omega)
  clear hO
  go_wp2
  go_loopw [6] (fun i wr => ∃ (k : Nat) (M : List (List Int)), k ≤ x.length ∧ i = .int .i64 k ∧ Ext W wr ∧ Mat wr W.heap.size g cap A C M ∧ Hid (FillD (shiftE x num den) (ent x) x.length x.length (fun i j => i < k) M)) (fun i _ => x.length - (intOf i).toNat)
  case atStart => exact ⟨0, x, Nat.zero_le _, rfl, hE, hM, FillD.start HX.out.2.1 (fun i j _ _ => rfl) (fun i j _ _ => Nat.not_lt_zero _)⟩
  case round =>
    obtain ⟨k, M, hk, rfl, hE2, hM2, hF⟩ := hrel
    clear hE hM
    by_cases hlt : k < x.length
    · go_wp2
      go_loopw [7] (fun i wr => ∃ (t : Nat) (M : List (List Int)), t ≤ x.length ∧ i = .int .i64 t ∧ Ext W wr ∧ Mat wr W.heap.size g cap A C M ∧ Hid (FillD (shiftE x num den) (ent x) x.length x.length (fun i j => i < k ∨ (i = k ∧ j < t)) M)) (fun i _ => x.length - (intOf i).toNat)
      case atStart => exact ⟨0, M, Nat.zero_le _, rfl, hE2, hM2, hF.out.congr fun i j _ _ => by omega⟩
      case round =>
        obtain ⟨t, M3, ht, rfl, hE3, hM3, hF3⟩ := hrel
        clear hE2 hM2
        by_cases hltn : t < x.length
        · obtain ⟨q, o3, c, d1, dd, -⟩ := HX.out.1.hdr HX.out.2.1 hlt (by omega)
          have d2 := dd t hltn
          replace d1 := hE3.cell (hE0.cell d1)
          replace d2 := hE3.cell (hE0.cell d2)
          clear dd
          by_cases s4 : ent x k t = -1000000000000000
          · have hnext : Hid (FillD (shiftE x num den) (ent x) x.length x.length (fun i j => i < k ∨ (i = k ∧ j < t + 1)) M3) := hF3.out.swap (fun i j _ _ hd => ⟨rfl, by omega⟩) (fun i j _ _ hd => by
              by_cases e : i < k ∨ (i = k ∧ j < t)
              · exact .inl e
              · refine .inr ⟨?_, e⟩
                obtain ⟨rfl, rfl⟩ : i = k ∧ j = t := by omega
                unfold shiftE; rw [if_pos s4]; exact s4)
            rw [s4] at d2
            clear s4 hF3
            go_wp2
            go_roundw
            case rel => exact ⟨t + 1, M3, by omega, by go_num, hE3, hM3, hnext⟩
            case measure => simp [intOf]; omega
          · have hs4 : (ent x k t == -1000000000000000) = false := by simpa using s4
            have hs4' : (ent x k t != -1000000000000000) = true := by simpa using s4
            have hbb := isSq_ebd1 HX.out.2.2 s4
            obtain ⟨hb, hw1, hw2⟩ := sh_wrap hd hbb hn
            have hv : shiftE x num den k t = den * ent x k t - num := by unfold shiftE; rw [if_neg s4]
            have hkM : k < M3.length := by rw [hF3.out.1.1]; exact hlt
            have hrk : (row M3 k).length = x.length := hF3.out.1.2 k hlt
            have c1 := hM3.cell hkM
            obtain ⟨r, hA, hBr, hrs, hce, hfe⟩ := hM3.addr hkM (by rw [hrk]; omega)
            have c2 := hce t (by rw [hrk]; exact hltn)
            have f2 := hfe t
            rw [hrk, hA] at c1
            have hset := fun z => hM3.set hkM hA t z
            have hset := Lib.hid hset
            have hnext := hF3.out.step (D' := fun i j => i < k ∨ (i = k ∧ j < t + 1)) hlt hltn fun i j _ _ => by omega
            rw [hv] at hnext
            have hnext := Lib.hid hnext
            have b0 := hE3.cell HBB.out.c0
            have b1 := hE3.cell HBB.out.c1
            clear hce hfe hrk hA hF3 hv s4
            generalize ent x k t = z at *
            go_wp2_with fail
            refine region_qt_lit 19 (by kernel_rfl) (by kernel_rfl) ?_
            simp only [List.take_succ_cons, List.take_zero, List.drop_succ_cons, List.drop_zero]
            repeat (go_big_quiet_step ((fail)))
            refine wpQuiet_nil ?_
            intro _ hw'
            obtain ⟨nq, hw''⟩ := hw'
            subst hw''
            go_wp2
            go_roundw
            case rel =>
              refine ⟨t + 1, _, by omega, by go_num, ?_, ?_, hnext.out⟩
              · repeat (first | exact hE3 | refine Ext.drewN ?_ _ | refine Ext.drew ?_ | refine Ext.set ?_ hBr _)
              · exact (hset.out _).ext ⟨rfl, rfl, rfl, Nat.le_refl _, fun _ _ => rfl⟩
            case measure => simp [intOf]; omega
        · obtain rfl : x.length = t := by omega
          go_wp2
          go_roundw
          case rel => exact ⟨k + 1, M3, by omega, by go_num, hE3, hM3, hF3.out.congr fun i j _ _ => by omega⟩
          case measure => simp [intOf]; omega
    · obtain rfl : x.length = k := by omega
      have e := hF.out.done fun i j hi hj => hi
      go_wp2
      go_ret
      have hl : (shiftM x num den).length = x.length := mkMat_len _ _ _
      subst e
      exact (hM2.mono hE0.size).give (hE0.trans hE2) hl rfl
end Go.Proofs.Ytljchmkoafahgaa
