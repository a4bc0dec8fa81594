/- Contracts of the texts of matrices, the program's side. Conditions: the table of powers lies in memory. -/
import Derived.Test.YtkipbfjkcdccjaaDoorT1
import Derived.Test.YtkipbfjkcdccjaaDoorT7
namespace Go.Proofs.YtkipbfjkcdccjaaDoor
set_option linter.unusedVariables false
set_option linter.unusedSimpArgs false
open Go.RowKit

/-- joining what lies in memory -/
theorem join_c (a : Option Addr) (cap : Nat) (ss : List (List UInt8)) (c : UInt8) (w : World) (h : StrsAt w a ss) (hcap : ss.length ≤ cap) (hl : ss.length ≤ 1000000) (hlen : (Lib.join ss [c]).length ≤ 140737488355328) :
    Calls Tryd.prog 58 #[.slice a ss.length cap, .string ⟨#[c]⟩] w fun e w' => e = .returned (.string ⟨(Lib.join ss [c]).toArray⟩) ∧ Ext w w' := by
  by_cases h0 : ss = []
  · subst h0
    refine (Tryd.strings_Join_none a cap ⟨#[c]⟩ w).mono ?_
    rintro e w' ⟨rfl, rfl⟩
    exact ⟨by rw [Lib.join_nil], Ext.refl _⟩
  · obtain ⟨b, o, rfl, hc⟩ := h.2 h0
    have e1 : ((ss.map fun l => (⟨l.toArray⟩ : ByteArray)).map (·.data.toList)) = ss := by
      rw [List.map_map]
      conv => rhs; rw [← List.map_id ss]
      exact List.map_congr_left fun x _ => by simp
    have hp : 0 < ss.length := List.length_pos_iff.2 h0
    have hj := Tryd.strings_Join b o cap (ss.map fun l => (⟨l.toArray⟩ : ByteArray)) ⟨#[c]⟩ w (fun j x hj => by
        have hlt : j < ss.length := by
          rcases Nat.lt_or_ge j ss.length with h | h
          · exact h
          · rw [List.getElem?_eq_none (by simpa using h)] at hj; simp at hj
        rw [hc j hlt]
        simp [hlt] at hj
        rw [← hj, pc_at hlt]) (World.block_lt_of_cell? w ⟨b, o + 0, none⟩ (hc 0 hp)) (by simp; omega) (by simpa using hcap) (by rw [e1]; exact hlen)
    rw [e1, List.length_map] at hj
    exact hj
/-- what has been written of some pieces -/
def wrt (f : Nat → List UInt8) (n k : Nat) : List (List UInt8) := (List.range n).map fun i => if i < k then f i else []
theorem wrt_len (f : Nat → List UInt8) (n k : Nat) : (wrt f n k).length = n := by simp [wrt]
theorem wrt_zero (f : Nat → List UInt8) (n : Nat) : wrt f n 0 = List.replicate n [] := by
  apply List.ext_getElem <;> simp [wrt]
theorem wrt_succ (f : Nat → List UInt8) (n k : Nat) (h : k < n) : (wrt f n k).set k (f k) = wrt f n (k + 1) := by
  apply List.ext_getElem
  · simp [wrt]
  · intro i h1 h2
    simp only [List.getElem_set, wrt, List.getElem_map, List.getElem_range]
    by_cases e : k = i
    · subst e; simp
    · rw [if_neg e]
      by_cases e2 : i < k
      · rw [if_pos e2, if_pos (by omega)]
      · rw [if_neg e2, if_neg (by omega)]
theorem wrt_all (g : Nat → List UInt8) (ss : List (List UInt8)) (n : Nat) (hn : ss.length = n) (h : ∀ i, i < n → g i = pc ss i) : wrt g n n = ss := by
  subst hn
  apply List.ext_getElem
  · simp [wrt]
  · intro i h1 h2
    simp only [wrt, List.getElem_map, List.getElem_range]
    rw [if_pos h2, h i h2, pc_at h2]
theorem OwnS.store {w : World} {B g n cap : Nat} {ss : List (List UInt8)} (h : OwnS w B (.slice (some ⟨g, 0, none⟩) n cap) ss) (hn : ss.length = n) {j : Nat} (hj : j < n) :
    (∃ v, w.cell? ⟨g, j, none⟩ = some v) ∧ w.frozen? ⟨g, j, none⟩ = false ∧ ∀ x, OwnS (w.setCell ⟨g, j, none⟩ (.string ⟨x.toArray⟩)) B (.slice (some ⟨g, 0, none⟩) n cap) (ss.set j x) := by
  subst hn
  refine ⟨?_, ?_, fun x => h.set j x⟩
  · rcases h.form with ⟨e, _⟩ | ⟨g', cap', e, _, _, _, _, hc, _⟩
    · simp at e
    · simp only [Value.slice.injEq, Option.some.injEq, Addr.mk.injEq, and_true, true_and] at e
      obtain ⟨rfl, rfl⟩ := e
      exact ⟨_, hc j hj⟩
  · rcases h.form with ⟨e, _⟩ | ⟨g', cap', e, _, _, _, _, _, hf⟩
    · simp at e
    · simp only [Value.slice.injEq, Option.some.injEq, Addr.mk.injEq, and_true, true_and] at e
      obtain ⟨rfl, rfl⟩ := e
      exact hf j
theorem OwnS.strs {w : World} {B n cap : Nat} {a : Option Addr} {ss : List (List UInt8)} (h : OwnS w B (.slice a n cap) ss) : StrsAt w a ss ∧ n = ss.length ∧ ss.length ≤ cap := by
  obtain ⟨a', cap', e, hx, hc⟩ := h.at
  simp only [Value.slice.injEq] at e
  obtain ⟨rfl, rfl, rfl⟩ := e
  exact ⟨hx, rfl, hc⟩
theorem join_bd (ss : List (List UInt8)) (c : UInt8) (K : Nat) (hK : ∀ k, k < ss.length → (pc ss k).length ≤ K) : (Lib.join ss [c]).length ≤ (K + 1) * ss.length := by
  rw [← jt_all]; exact jt_len c ss K hK _ (Nat.le_refl _)
set_option maxHeartbeats 1000000 in
theorem valuesText_c (a : Option Addr) (cap : Nat) (x : List Int) (w : World) (h : IntsAt w a x) (hv : allV x = true) (hl : x.length ≤ 1000000) (ht : Tb w) : Calls Tryd.prog 57 #[.slice a x.length cap] w fun e w' => e = .returned (.string ⟨(rowT x).toArray⟩) ∧ Ext w w' := by
  have hmk := run_make_row' (P := Tryd.prog) 39 9 (.string ByteArray.empty) 16 Tryd.underlying39 info_s rfl .i64 .i64 x.length (by omega) (by omega)
  have hO0 := OwnS.made w w.heap.size x.length (Nat.le_refl _) (by omega)
  have hE0 := (Ext.refl w).alloc (.cells (madeCells #[.string ByteArray.empty] x.length) 9)
  rw [List.length_replicate, ← wrt_zero fun i => valT (nth x i)] at hO0
  obtain ⟨W, hW⟩ : ∃ W, w.alloc (.cells (madeCells #[.string ByteArray.empty] x.length) 9) = W := ⟨_, rfl⟩
  rw [hW] at hO0 hE0
  have hv' := Lib.hid (allV_iff.1 hv)
  have HX := Lib.hid h
  have HT := Lib.hid ht
  clear h ht hv
  go_enter Tryd.func57, Tryd.ntmps57
  go_wp2
  clear hmk
  go_loopw [11] (fun i wr => ∃ k : Nat, k ≤ x.length ∧ i = .int .i64 k ∧ Ext w wr ∧ OwnS wr w.heap.size (.slice (some ⟨w.heap.size, 0, none⟩) x.length x.length) (wrt (fun i => valT (nth x i)) x.length k)) (fun i _ => x.length - (intOf i).toNat)
  case atStart => exact ⟨0, Nat.zero_le _, rfl, hE0, hO0⟩
  case round =>
    obtain ⟨k, hk, rfl, hE, hO⟩ := hrel
    clear hO0 hE0 hW
    by_cases hlt : k < x.length
    · obtain ⟨b, o, rfl, hc⟩ := (HX.out.mono hE).at hlt
      have c1 := hc k hlt
      clear hc
      have HV := Lib.hid (valueText_c (nth x k) (hv'.out k hlt) wr (HT.out.ext hE))
      go_wp2_with fail
      refine HV.out.mono ?_
      rintro e w2 ⟨rfl, hE2⟩
      obtain ⟨⟨v0, c2⟩, c3, hst⟩ := (hO.ext hE2).store (wrt_len _ _ _) hlt
      have HS := Lib.hid (hst (valT (nth x k)))
      rw [wrt_succ (fun i => valT (nth x i)) x.length k hlt] at HS
      clear hst
      go_wp2
      go_roundw
      case rel => exact ⟨k + 1, by omega, by go_num, (hE.trans hE2).set (Nat.le_refl _) _, HS.out⟩
      case measure => simp [intOf]; omega
    · obtain rfl : k = x.length := by omega
      rw [wrt_all (fun i => valT (nth x i)) (x.map valT) x.length (by simp) (fun i hi => (pc_map valT x 0 hi).symm)] at hO
      have hj := join_c _ _ (x.map valT) 44 wr hO.strs.1 hO.strs.2.2 (by simpa using hl) (by
        have := join_bd (x.map valT) 44 8 (fun k hk => by rw [pc_map valT x 0 (by simpa using hk)]; exact valT_len _)
        rw [List.length_map] at this; omega)
      rw [List.length_map] at hj
      have HJ := Lib.hid hj
      clear hj
      go_wp2_with fail
      refine HJ.out.mono ?_
      rintro e w2 ⟨rfl, hE2⟩
      go_wp2
      go_ret
      exact ⟨rfl, hE.trans hE2⟩
set_option maxHeartbeats 1000000 in
theorem matrixText_c (a : Option Addr) (cap : Nat) (m : List (List Int)) (w : World) (h : MatAt w a m) (hm : isMat m = true) (ht : Tb w) : Calls Tryd.prog 40 #[.slice a m.length cap] w fun e w' => e = .returned (.string ⟨(matT m).toArray⟩) ∧ Ext w w' := by
  have hl : m.length ≤ 10 := (isMat_mem hm).2.1
  have hmk := run_make_row' (P := Tryd.prog) 39 9 (.string ByteArray.empty) 16 Tryd.underlying39 info_s rfl .i64 .i64 m.length (by omega) (by omega)
  have hO0 := OwnS.made w w.heap.size m.length (Nat.le_refl _) (by omega)
  have hE0 := (Ext.refl w).alloc (.cells (madeCells #[.string ByteArray.empty] m.length) 9)
  rw [List.length_replicate, ← wrt_zero fun i => rowT (row m i)] at hO0
  obtain ⟨W, hW⟩ : ∃ W, w.alloc (.cells (madeCells #[.string ByteArray.empty] m.length) 9) = W := ⟨_, rfl⟩
  rw [hW] at hO0 hE0
  have hr := Lib.hid (isMat_row hm)
  have HX := Lib.hid h
  have HT := Lib.hid ht
  have HM : Hid (matT m = Lib.join (m.map rowT) [59]) := Lib.hid (by unfold matT; rw [if_pos hm])
  clear h ht hm
  go_enter Tryd.func40, Tryd.ntmps40
  go_wp2
  clear hmk
  go_loopw [11] (fun i wr => ∃ k : Nat, k ≤ m.length ∧ i = .int .i64 k ∧ Ext w wr ∧ OwnS wr w.heap.size (.slice (some ⟨w.heap.size, 0, none⟩) m.length m.length) (wrt (fun i => rowT (row m i)) m.length k)) (fun i _ => m.length - (intOf i).toNat)
  case atStart => exact ⟨0, Nat.zero_le _, rfl, hE0, hO0⟩
  case round =>
    obtain ⟨k, hk, rfl, hE, hO⟩ := hrel
    clear hO0 hE0 hW
    by_cases hlt : k < m.length
    · obtain ⟨b, o, rfl, hc⟩ := (HX.out.mono hE).at hlt
      obtain ⟨ai, ci, c1, hrow, -⟩ := hc k hlt
      clear hc
      have HV := Lib.hid (valuesText_c ai ci (row m k) wr hrow (hr.out k hlt).2 (by have := (hr.out k hlt).1; omega) (HT.out.ext hE))
      clear hrow
      go_wp2_with fail
      refine HV.out.mono ?_
      rintro e w2 ⟨rfl, hE2⟩
      obtain ⟨⟨v0, c2⟩, c3, hst⟩ := (hO.ext hE2).store (wrt_len _ _ _) hlt
      have HS := Lib.hid (hst (rowT (row m k)))
      rw [wrt_succ (fun i => rowT (row m i)) m.length k hlt] at HS
      clear hst
      go_wp2
      go_roundw
      case rel => exact ⟨k + 1, by omega, by go_num, (hE.trans hE2).set (Nat.le_refl _) _, HS.out⟩
      case measure => simp [intOf]; omega
    · obtain rfl : k = m.length := by omega
      rw [wrt_all (fun i => rowT (row m i)) (m.map rowT) m.length (by simp) (fun i hi => (pc_map rowT m [] hi).symm)] at hO
      have hj := join_c _ _ (m.map rowT) 59 wr hO.strs.1 hO.strs.2.2 (by simp; omega) (by
        have := join_bd (m.map rowT) 59 90 (fun k hk => by
          rw [pc_map rowT m [] (by simpa using hk)]
          have h1 := rowT_len (row m k)
          have h2 := (hr.out k (by simpa using hk)).1
          show (rowT (row m k)).length ≤ 90
          omega)
        rw [List.length_map] at this; omega)
      rw [List.length_map] at hj
      have HJ := Lib.hid hj
      clear hj
      go_wp2_with fail
      refine HJ.out.mono ?_
      rintro e w2 ⟨rfl, hE2⟩
      go_wp2
      go_ret
      exact ⟨ret_str (by rw [HM.out]), hE.trans hE2⟩
theorem implMatrixText_c (a : Option Addr) (cap : Nat) (m : List (List Int)) (w : World) (h : MatAt w a m) (ht : Tb w) : Calls Tryd.prog 18 #[.slice a m.length cap] w fun e w' => e = .returned (.string ⟨(matT m).toArray⟩) ∧ Ext w w' := by
  have HX := Lib.hid h
  have HT := Lib.hid ht
  have HM := Lib.hid (isMatrix_c a cap m w h)
  cases hm : isMat m
  · have HE := Lib.hid (matT_no hm)
    have HF := Lib.hid hm
    clear hm h ht
    go_enter Tryd.func18, Tryd.ntmps18
    go_wp2_with fail
    refine (asB HF.out HM.out).mono ?_
    rintro e w2 ⟨rfl, hQ⟩
    go_wp2
    go_ret
    exact ⟨ret_str (b := matT m) (a := []) (by rw [HE.out]), hQ⟩
  · have HF := Lib.hid hm
    clear hm h ht
    go_enter Tryd.func18, Tryd.ntmps18
    go_wp2_with fail
    refine (asB HF.out HM.out).mono ?_
    rintro e w2 ⟨rfl, hQ⟩
    go_wp2_with fail
    refine (matrixText_c a cap m w2 (HX.out.mono hQ) HF.out (HT.out.ext hQ)).mono ?_
    rintro e w3 ⟨rfl, hE3⟩
    go_wp2
    go_ret
    exact ⟨rfl, hQ.trans hE3⟩
end Go.Proofs.YtkipbfjkcdccjaaDoor
