/- Contracts of the functions that make matrices out of entries. Conditions: the forms of the matrices. -/
import Derived.Test.YtkfpcbafhgolnaaM2
import Derived.Test.YtkfpcbafhgolnaaH2
namespace Go.Proofs.Ytkfpcbafhgolnaa
set_option linter.unusedVariables false
open Go.RowKit

theorem transF_c (bx : Nat) (a : Option Addr) (cap n : Nat) (m : List (List Int)) (i j : Nat) (w : World) (hb : w.cell? ⟨bx, 0, none⟩ = some (.slice a m.length cap)) (hm : MatAt w a m) (hr : Rect m m.length n) (hi : i < n) (hj : j < m.length) :
    Calls Try.prog 118 #[.int .i64 (i : Int), .int .i64 (j : Int), .pointer (some ⟨bx, 0, none⟩)] w fun e w' => e = .returned (.int .i64 (ent m j i)) ∧ Qt w w' := by
  have hlen := hm.len
  obtain ⟨b, o, rfl, hc⟩ := hm.at hj
  obtain ⟨ai, ci, c1, hx, _⟩ := hc j hj
  have hrj := hr.2 j hj
  rw [hrj] at c1
  have hn := hx.len
  rw [hrj] at hn
  obtain ⟨b2, o2, rfl, hc2⟩ := hx.at (i := i) (by rw [hrj]; exact hi)
  have c2 : w.cell? ⟨b2, o2 + i, none⟩ = some (.int .i64 (ent m j i)) := hc2 i (by rw [hrj]; exact hi)
  clear hc hc2 hrj hm hx
  go_enter Try.func118, Try.ntmps118
  go_wp2
  go_ret
  exact ⟨rfl, Qt.refl _⟩
theorem transF_enter (args : Array Value) (w : World) : Sem.run Try.prog (callFunc 118 args) w = .ok (.enter 118 args) w := by
  simp [callFunc, Try.func118, Try.f118]

set_option maxHeartbeats 400000 in
theorem transposed_c (a : Option Addr) (cap n : Nat) (m : List (List Int)) (w : World) (hm : MatAt w a m) (hr : Rect m m.length n) (h0 : 0 < m.length) (h1 : m.length ≤ 100) (hn : n ≤ 100) :
    Calls Try.prog 93 #[.slice a m.length cap] w (GivesM w (mkMat n m.length fun i j => ent m j i)) := by
  obtain ⟨W, hW⟩ : ∃ W, w.alloc (.cells #[.slice a m.length cap] 31) = W := ⟨_, rfl⟩
  have hE : Ext w W := by rw [← hW]; exact (Ext.refl w).alloc _
  have hb : W.cell? ⟨w.heap.size, 0, none⟩ = some (.slice a m.length cap) := by rw [← hW]; simp
  have hm' := hm.mono hE
  have H := Lib.hid (fun (W' : World) (hq : Ext W W') => matrixBy_c 118 #[.pointer (some ⟨w.heap.size, 0, none⟩)] n m.length (fun i j => ent m j i) W' hn h1 transF_enter
    (fun i j w' hi hj hE' => transF_c w.heap.size a cap n m i j w' (hE'.cell (hq.cell hb)) ((hm'.mono hq).mono hE') hr hi hj))
  obtain ⟨b, o, rfl, hc⟩ := hm'.at h0
  obtain ⟨ai, ci, c1, hx, _⟩ := hc 0 h0
  rw [hr.2 0 h0, Nat.add_zero] at c1
  have hz : (0 : Int) < (m.length : Int) := by omega
  clear hc hm hm' hx
  go_enter Try.func93, Try.ntmps93
  go_wp2_with fail
  refine region_qt_lit 7 (by kernel_rfl) (by kernel_rfl) ?_
  simp only [List.take_succ_cons, List.take_zero, List.drop_succ_cons, List.drop_zero]
  repeat (go_big_quiet_step ((fail)))
  refine wpQuiet_nil ?_
  intro _ hw'
  obtain ⟨nq, hw''⟩ := hw'
  subst hw''
  go_wp2_with fail
  refine (H.out _ ((Ext.refl W).drewN _)).mono ?_
  rintro e w' ⟨a', cap', rfl, h1, h2⟩
  go_wp2
  go_ret
  exact ⟨a', cap', rfl, h1.mono (by have := hE.size; simpa using this), hE.trans (((Ext.refl W).drewN _).trans h2)⟩

end Go.Proofs.Ytkfpcbafhgolnaa
