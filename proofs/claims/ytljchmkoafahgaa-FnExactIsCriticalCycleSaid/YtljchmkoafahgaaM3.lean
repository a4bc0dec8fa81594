/- Contracts of the functions that make matrices out of entries. Conditions: the forms of the matrices. -/
import Derived.Test.YtljchmkoafahgaaM2
import Derived.Test.YtljchmkoafahgaaH2
namespace Go.Proofs.Ytljchmkoafahgaa
set_option linter.unusedVariables false
open Go.RowKit

theorem unitF_c (i j : Nat) (w : World) : Calls Try.prog 165 #[.int .i64 (i : Int), .int .i64 (j : Int)] w fun e w' => e = .returned (.int .i64 (unitF i j)) ∧ Qt w w' := by
  by_cases h : i = j
  · subst h
    go_enter Try.func165, Try.ntmps165
    go_wp2
    go_ret
    exact ⟨ret_int (by simp [unitF]), Qt.refl _⟩
  · have h' : ((i : Int) == (j : Int)) = false := by rw [beq_eq_false_iff_ne]; omega
    have H := Lib.hid h
    clear h
    go_enter Try.func165, Try.ntmps165
    go_wp2
    go_ret
    exact ⟨ret_int (by simp [unitF, H.out]), Qt.refl _⟩
theorem unitF_enter (args : Array Value) (w : World) : Sem.run Try.prog (callFunc 165 args) w = .ok (.enter 165 args) w := by
  simp [callFunc, Try.func165, Try.f165]

theorem unitMatrix_c (n : Nat) (w : World) (hn : n ≤ 100) : Calls Try.prog 150 #[.int .i64 (n : Int)] w (GivesM w (mkMat n n unitF)) := by
  have H := Lib.hid (matrixBy_c 165 #[] n n unitF w hn hn unitF_enter (fun i j w' _ _ _ => unitF_c i j w'))
  go_enter Try.func150, Try.ntmps150
  go_wp2_with fail
  refine H.out.mono ?_
  rintro e w' ⟨a, cap, rfl, h1, h2⟩
  go_wp2
  go_ret
  exact ⟨a, cap, rfl, h1, h2⟩

theorem transF_c (bx : Nat) (a : Option Addr) (cap n : Nat) (m : List (List Int)) (i j : Nat) (w : World) (hb : w.cell? ⟨bx, 0, none⟩ = some (.slice a m.length cap)) (hm : MatAt w a m) (hr : Rect m m.length n) (hi : i < n) (hj : j < m.length) :
    Calls Try.prog 162 #[.int .i64 (i : Int), .int .i64 (j : Int), .pointer (some ⟨bx, 0, none⟩)] w fun e w' => e = .returned (.int .i64 (ent m j i)) ∧ Qt w w' := by
  have hlen := hm.len
  obtain ⟨b, o, rfl, hc⟩ := hm.at hj
  obtain ⟨ai, ci, c1, hx, _⟩ := hc j hj
  have hrj := hr.2 j hj
  rw [hrj] at c1
  have hn := hx.len
  rw [hrj] at hn
  obtain ⟨b2, o2, rfl, hc2⟩ := hx.at (i := i) (by rw [hrj]; exact hi)
  have c2 : w.cell? ⟨b2, o2 + i, none⟩ = some (.int .i64 (ent m j i)) := hc2 i (by rw [hrj]; exact hi)
  clear hc hc2 hrj hm hx
  go_enter Try.func162, Try.ntmps162
  go_wp2
  go_ret
  exact ⟨rfl, Qt.refl _⟩
theorem transF_enter (args : Array Value) (w : World) : Sem.run Try.prog (callFunc 162 args) w = .ok (.enter 162 args) w := by
  simp [callFunc, Try.func162, Try.f162]

set_option maxHeartbeats 400000 in
theorem transposed_c (a : Option Addr) (cap n : Nat) (m : List (List Int)) (w : World) (hm : MatAt w a m) (hr : Rect m m.length n) (h0 : 0 < m.length) (h1 : m.length ≤ 100) (hn : n ≤ 100) :
    Calls Try.prog 136 #[.slice a m.length cap] w (GivesM w (mkMat n m.length fun i j => ent m j i)) := by
  obtain ⟨W, hW⟩ : ∃ W, w.alloc (.cells #[.slice a m.length cap] 22) = W := ⟨_, rfl⟩
  have hE : Ext w W := by rw [← hW]; exact (Ext.refl w).alloc _
  have hb : W.cell? ⟨w.heap.size, 0, none⟩ = some (.slice a m.length cap) := by rw [← hW]; simp
  have hm' := hm.mono hE
  have H := Lib.hid (fun (W' : World) (hq : Ext W W') => matrixBy_c 162 #[.pointer (some ⟨w.heap.size, 0, none⟩)] n m.length (fun i j => ent m j i) W' hn h1 transF_enter
    (fun i j w' hi hj hE' => transF_c w.heap.size a cap n m i j w' (hE'.cell (hq.cell hb)) ((hm'.mono hq).mono hE') hr hi hj))
  obtain ⟨b, o, rfl, hc⟩ := hm'.at h0
  obtain ⟨ai, ci, c1, hx, _⟩ := hc 0 h0
  rw [hr.2 0 h0, Nat.add_zero] at c1
  have hz : (0 : Int) < (m.length : Int) := by omega
  clear hc hm hm' hx
  go_enter Try.func136, Try.ntmps136
  go_wp2_with fail
  refine region_qt_lit 7 (by kernel_rfl) (by kernel_rfl) ?_
  simp only [List.take_succ_cons, List.take_zero, List.drop_succ_cons, List.drop_zero]
  repeat (go_big_quiet_step ((fail)))
  refine wpQuiet_nil ?_
  intro _ hw'
  obtain ⟨nq, hw''⟩ := hw'
  subst hw''
  go_wp2_with fail
  refine (H.out _ ((Ext.refl W).drewN _)).mono ?_
  rintro e w' ⟨a', cap', rfl, h1, h2⟩
  go_wp2
  go_ret
  exact ⟨a', cap', rfl, h1.mono (by have := hE.size; simpa using this), hE.trans (((Ext.refl W).drewN _).trans h2)⟩

theorem addF_c (b1 b2 : Nat) (a b : Option Addr) (ca cb m n : Nat) (x y : List (List Int)) (i j : Nat) (w : World) (h1 : w.cell? ⟨b1, 0, none⟩ = some (.slice a x.length ca)) (h2 : w.cell? ⟨b2, 0, none⟩ = some (.slice b y.length cb))
    (hx : MatAt w a x) (hy : MatAt w b y) (rx : Rect x m n) (ry : Rect y m n) (hi : i < m) (hj : j < n) :
    Calls Try.prog 144 #[.int .i64 (i : Int), .int .i64 (j : Int), .pointer (some ⟨b1, 0, none⟩), .pointer (some ⟨b2, 0, none⟩)] w fun e w' => e = .returned (.int .i64 (addE x y i j)) ∧ Qt w w' := by
  obtain ⟨hlx, hrx⟩ := rx
  obtain ⟨hly, hry⟩ := ry
  rw [hlx] at h1
  rw [hly] at h2
  have hlen := hx.len
  rw [hlx] at hlen
  obtain ⟨p, o, rfl, hc⟩ := hx.at (i := i) (by omega)
  obtain ⟨ai, ci, c1, hx1, _⟩ := hc i (by omega)
  obtain ⟨q, o', rfl, hd⟩ := hy.at (i := i) (by omega)
  obtain ⟨bi, di, d1, hy1, _⟩ := hd i (by omega)
  rw [hrx i hi] at c1
  rw [hry i hi] at d1
  have hn := hx1.len
  rw [hrx i hi] at hn
  obtain ⟨p2, o2, rfl, hc2⟩ := hx1.at (i := j) (by rw [hrx i hi]; exact hj)
  have c2 : w.cell? ⟨p2, o2 + j, none⟩ = some (.int .i64 (ent x i j)) := hc2 j (by rw [hrx i hi]; exact hj)
  obtain ⟨q2, o3, rfl, hd2⟩ := hy1.at (i := j) (by rw [hry i hi]; exact hj)
  have d2 : w.cell? ⟨q2, o3 + j, none⟩ = some (.int .i64 (ent y i j)) := hd2 j (by rw [hry i hi]; exact hj)
  clear hc hc2 hd hd2 hx hx1 hy hy1 hlx hly hrx hry
  unfold addE
  go_enter Try.func144, Try.ntmps144
  go_wp2_with fail
  go_region
  all_goals go_wp2
  all_goals go_ret
  all_goals exact ⟨ret_int (by omega), by first | exact (Qt.refl _).drew | exact Qt.refl _ | exact (Qt.refl _).drewN _⟩
theorem addF_enter (args : Array Value) (w : World) : Sem.run Try.prog (callFunc 144 args) w = .ok (.enter 144 args) w := by
  simp [callFunc, Try.func144, Try.f144]

set_option maxHeartbeats 400000 in
theorem addMatrices_c (a b : Option Addr) (ca cb m n : Nat) (x y : List (List Int)) (w : World) (hx : MatAt w a x) (hy : MatAt w b y) (rx : Rect x m n) (ry : Rect y m n) (h0 : 0 < m) (hm : m ≤ 100) (hn : n ≤ 100) :
    Calls Try.prog 105 #[.slice a x.length ca, .slice b y.length cb] w (GivesM w (mkMat m n (addE x y))) := by
  obtain ⟨W1, hW1⟩ : ∃ W, w.alloc (.cells #[.slice a x.length ca] 22) = W := ⟨_, rfl⟩
  have hE1 : Ext w W1 := by rw [← hW1]; exact (Ext.refl w).alloc _
  have hb1 : W1.cell? ⟨w.heap.size, 0, none⟩ = some (.slice a x.length ca) := by rw [← hW1]; simp
  obtain ⟨W, hW⟩ : ∃ W, W1.alloc (.cells #[.slice b y.length cb] 22) = W := ⟨_, rfl⟩
  have hE2 : Ext W1 W := by rw [← hW]; exact (Ext.refl W1).alloc _
  have hb2 : W.cell? ⟨W1.heap.size, 0, none⟩ = some (.slice b y.length cb) := by rw [← hW]; simp
  have hb1' := hE2.cell hb1
  have hE := hE1.trans hE2
  have hx' := hx.mono hE
  have hy' := hy.mono hE
  have H := Lib.hid (fun (W' : World) (hq : Ext W W') => matrixBy_c 144 #[.pointer (some ⟨w.heap.size, 0, none⟩), .pointer (some ⟨W1.heap.size, 0, none⟩)] m n (addE x y) W' hm hn addF_enter
    (fun i j w' hi hj hE' => addF_c w.heap.size W1.heap.size a b ca cb m n x y i j w' (hE'.cell (hq.cell hb1')) (hE'.cell (hq.cell hb2)) ((hx'.mono hq).mono hE') ((hy'.mono hq).mono hE') rx ry hi hj))
  have hlx := rx.1
  obtain ⟨p, o, rfl, hc⟩ := hx'.at (i := 0) (by omega)
  obtain ⟨ai, ci, c1, hxx, _⟩ := hc 0 (by omega)
  rw [rx.2 0 h0, Nat.add_zero] at c1
  rw [hlx] at hb1' hW1 ⊢
  have hz : (0 : Int) < (m : Int) := by omega
  clear hc hx hy hx' hy' hxx hE1 hE2 hb1 hlx
  go_enter Try.func105, Try.ntmps105
  go_wp2_with fail
  refine region_qt_lit 7 (by kernel_rfl) (by kernel_rfl) ?_
  simp only [List.take_succ_cons, List.take_zero, List.drop_succ_cons, List.drop_zero]
  repeat (go_big_quiet_step ((fail)))
  refine wpQuiet_nil ?_
  intro _ hw'
  obtain ⟨nq, hw''⟩ := hw'
  subst hw''
  go_wp2_with fail
  refine (H.out _ ((Ext.refl W).drewN _)).mono ?_
  rintro e w' ⟨a', cap', rfl, h1, h2⟩
  go_wp2
  go_ret
  exact ⟨a', cap', rfl, h1.mono (by have := hE.size; simpa using this), hE.trans (((Ext.refl W).drewN _).trans h2)⟩

end Go.Proofs.Ytljchmkoafahgaa
