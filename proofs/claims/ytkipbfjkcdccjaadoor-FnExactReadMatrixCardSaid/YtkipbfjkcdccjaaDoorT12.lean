/- The walk of the law over reading matrices. What the library reads lies in memory. -/
import Derived.Test.YtkipbfjkcdccjaaDoorT11
import Derived.Test.YtkipbfjkcdccjaaDoorGB
namespace Go.Proofs.YtkipbfjkcdccjaaDoor
set_option linter.unusedVariables false
open Go.RowKit

def rdMV (l : List UInt8) : List (List Int) := if rdM l then mtV l else []
theorem rdMV_mat {l : List UInt8} (h : rdM l = true) : rdMV l = mtV l := if_pos h
theorem rdMV_tot (l : List UInt8) : tot (rdMV l) ≤ 1000000 := by
  unfold rdMV
  split
  · rename_i h
    unfold rdM at h
    simp only [Bool.and_eq_true] at h
    obtain ⟨h1, h2, h3⟩ := isMat_mem h.2
    have key : ∀ (ms : List (List Int)), (∀ x ∈ ms, x.length ≤ 10) → tot ms ≤ 10 * ms.length := fun ms => by
      induction ms with
      | nil => intro _; simp [tot]
      | cons x ms ih =>
        intro hx
        have := ih fun y hy => hx y (List.mem_cons_of_mem _ hy)
        have := hx x List.mem_cons_self
        simp only [tot, List.length_cons]
        omega
    have := key _ fun x hx => (h3 x hx).2.1
    omega
  · simp [tot]
/-- a call that hands back a matrix and a sign -/
def GivesB (w : World) (m : List (List Int)) (ok : Bool) (e : Ending) (w' : World) : Prop := ∃ a cap, e = .returned (.tuple #[.slice a m.length cap, .bool ok]) ∧ OwnM w' w.heap.size (.slice a m.length cap) m ∧ Ext w w'
theorem GivesRM.one {w : World} {l : List UInt8} {e : Ending} {w' : World} (h : GivesRM w l e w') : GivesB w (rdMV l) (rdM l) e w' := by
  obtain ⟨hE, ⟨hy, a, cap, rfl, hO⟩ | ⟨hn, rfl⟩⟩ := h
  · have : rdMV l = mtV l := if_pos hy
    rw [this, hy]
    exact ⟨a, cap, rfl, hO, hE⟩
  · have : rdMV l = [] := if_neg (by rw [hn]; simp)
    rw [this, hn]
    exact ⟨none, 0, rfl, OwnM.nil _ _, hE⟩
set_option maxHeartbeats 2000000 in
theorem FnExactReadMatrix_walk (s : ByteArray) (hs : s.size ≤ 140737488355328) {w : World} (hb : Lb w) : Calls Tryd.prog 3 #[.string s] w fun e w' => e = .returned (.bool true) ∧ Ext w w' := by
  obtain ⟨⟨l⟩⟩ := s
  have hl : l.length ≤ 140737488355328 := by simpa [ByteArray.size] using hs
  have hsz := size_mk l
  have HL := Lib.hid hb
  clear hb hs
  by_cases hbig : 1048576 < l.length
  · go_enter Tryd.func3, Tryd.ntmps3
    go_wp2
    go_ret
    exact ⟨rfl, Ext.refl _⟩
  have hsp := fun w => (specReadMatrix_c l (by omega) w).mono fun _ _ h => h.one
  have him := fun w hb => (implReadMatrix_c l (by omega) w hb).mono fun _ _ h => h.one
  have hV := rdMV_tot l
  obtain ⟨m, hm⟩ : ∃ m, rdMV l = m := ⟨_, rfl⟩
  obtain ⟨ok, hok⟩ : ∃ ok, rdM l = ok := ⟨_, rfl⟩
  rw [hm, hok] at hsp him
  rw [hm] at hV
  have HSp := Lib.hid hsp
  have HIm := Lib.hid him
  clear hsp him hm hok
  have X0 := Ext.refl w
  cases ok
  all_goals
    go_enter Tryd.func3, Tryd.ntmps3
    go_wp2_with fail
    refine (HSp.out _).mono ?_
    rintro e W1 ⟨p4, c5, rfl, o3, E2⟩
    replace o3 := HasM.of o3
    have z6 := E2.size
    have X7 := X0.trans E2
    clear X0
    clear E2
    go_wp2_with fail
    refine (HIm.out _ (HL.out.ext X7)).mono ?_
    rintro e W8 ⟨p11, c12, rfl, o10, E9⟩
    replace o10 := HasM.of o10
    have z13 := E9.size
    have X14 := X7.trans E9
    clear X7
    replace o3 := o3.ext E9
    clear E9
    go_wp2_with fail
    refine (asB (c := true) (by simp) (eqM_c _ _ _ _ _ _ _ o10.mat o3.mat)).mono ?_
    rintro e W16 ⟨rfl, q15⟩
    replace q15 := q15.ext
    have z17 := q15.size
    have X18 := X14.trans q15
    clear X14
    replace o3 := o3.ext q15
    replace o10 := o10.ext q15
    clear q15
    go_wp2_with fail
    refine (markMH_c _ _ _ _ _ _ _ o10 (by omega) (by omega)).mono ?_
    rintro e W19 ⟨rfl, o21, C20⟩
    clear o10
    have z22 := Nat.le_of_eq C20.size.symm
    have X23 := X18.chgT C20 (by omega)
    clear X18
    replace o3 := o3.chg C20 (by omega)
    clear C20
    go_wp2_with fail
    refine (heldM_c _ _ _ _ _ o21.mat (by omega) (by omega)).mono ?_
    rintro e W24 ⟨rfl, q25⟩
    replace q25 := q25.ext
    have z26 := q25.size
    have X27 := X23.trans q25
    clear X23
    replace o3 := o3.ext q25
    replace o21 := o21.ext q25
    clear q25
    go_wp2_with fail
    refine (HIm.out _ (HL.out.ext X27)).mono ?_
    rintro e W28 ⟨p31, c32, rfl, o30, E29⟩
    replace o30 := HasM.of o30
    have z33 := E29.size
    have X34 := X27.trans E29
    clear X27
    replace o3 := o3.ext E29
    replace o21 := o21.ext E29
    clear E29
    go_wp2_with fail
    refine (asB (c := true) (by simp) (eqM_c _ _ _ _ _ _ _ o30.mat o3.mat)).mono ?_
    rintro e W36 ⟨rfl, q35⟩
    replace q35 := q35.ext
    have z37 := q35.size
    have X38 := X34.trans q35
    clear X34
    replace o3 := o3.ext q35
    replace o21 := o21.ext q35
    replace o30 := o30.ext q35
    clear q35
    clear o30
    clear o3
    go_wp2_with fail
    refine (heldM_c _ _ _ _ _ o21.mat (by omega) (by omega)).mono ?_
    rintro e W39 ⟨rfl, q40⟩
    replace q40 := q40.ext
    have z41 := q40.size
    have X42 := X38.trans q40
    clear X38
    clear q40
    clear o21
    go_wp2
    go_ret
    exact ⟨rfl, X42⟩
end Go.Proofs.YtkipbfjkcdccjaaDoor
