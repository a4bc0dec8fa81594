/- Contracts of cutting and joining texts, the reference's side. Conditions: the sizes that each states. -/
import Derived.Test.YtkipbfjkcdccjaaGreatDoorT2
import Derived.Test.YtkipbfjkcdccjaaGreatDoorT5
import Derived.Test.YtkipbfjkcdccjaaGreatDoorGM
import Derived.Test.YtkipbfjkcdccjaaGreatDoorGN
namespace Go.Proofs.YtkipbfjkcdccjaaGreatDoor
set_option linter.unusedVariables false
set_option linter.unusedSimpArgs false
open Go.RowKit

/-- the state of the reference's cutting -/
def SpI (c : UInt8) (l : List UInt8) (f i : Nat) (done : List (List UInt8)) : Prop :=
  i ≤ l.length + 1 ∧ f ≤ i ∧ done.length ≤ i ∧ (i ≤ l.length → (∀ j, f ≤ j → j < i → bt l j ≠ c.toNat) ∧ done ++ spl c (l.drop f) = spl c l) ∧ (l.length < i → done = spl c l)
theorem SpI.start (c : UInt8) (l : List UInt8) : SpI c l 0 0 [] :=
  ⟨Nat.zero_le _, Nat.le_refl _, Nat.le_refl _, fun _ => ⟨fun j _ h => absurd h (Nat.not_lt_zero _), rfl⟩, fun h => absurd h (Nat.not_lt_zero _)⟩
theorem SpI.keep {c : UInt8} {l : List UInt8} {f i : Nat} {done : List (List UInt8)} (h : SpI c l f i done) (hi : i < l.length) (hb : bt l i ≠ c.toNat) : SpI c l f (i + 1) done := by
  obtain ⟨h1, h2, h3, h4, h5⟩ := h
  refine ⟨by omega, by omega, by omega, fun hh => ⟨fun j hj1 hj2 => ?_, (h4 (by omega)).2⟩, fun hh => by omega⟩
  by_cases e : j = i
  · subst e; exact hb
  · exact (h4 (by omega)).1 j hj1 (by omega)
theorem piece_no {c : UInt8} {l : List UInt8} {f i : Nat} (h : ∀ j, f ≤ j → j < i → bt l j ≠ c.toNat) (hi : i ≤ l.length) : ∀ x ∈ (l.drop f).take (i - f), x ≠ c := by
  intro x hx e
  subst e
  obtain ⟨t, ht, hx⟩ := List.getElem_of_mem hx
  simp only [List.length_take, List.length_drop] at ht
  simp only [List.getElem_take, List.getElem_drop] at hx
  refine h (f + t) (by omega) (by omega) ?_
  rw [← bt_at l (f + t) (by omega), hx]
theorem SpI.cut {c : UInt8} {l : List UInt8} {f i : Nat} {done : List (List UInt8)} (h : SpI c l f i done) (hi : i < l.length) (hb : bt l i = c.toNat) : SpI c l (i + 1) (i + 1) (done ++ [(l.drop f).take (i - f)]) := by
  obtain ⟨h1, h2, h3, h4, h5⟩ := h
  obtain ⟨h6, h7⟩ := h4 (by omega)
  refine ⟨by omega, Nat.le_refl _, by simp; omega, fun hh => ⟨fun j hj1 hj2 => by omega, ?_⟩, fun hh => by omega⟩
  have e : l.drop f = (l.drop f).take (i - f) ++ c :: l.drop (i + 1) := by
    conv => lhs; rw [← List.take_append_drop (i - f) (l.drop f)]
    congr 1
    rw [List.drop_drop, show f + (i - f) = i by omega, List.drop_eq_getElem_cons hi]
    congr 1
    exact UInt8.toNat_inj.1 (by rw [bt_at l i hi, hb])
  rw [e, spl_cut _ _ (piece_no h6 (by omega))] at h7
  rw [← h7]; simp
theorem SpI.last {c : UInt8} {l : List UInt8} {f : Nat} {done : List (List UInt8)} (h : SpI c l f l.length done) : SpI c l (l.length + 1) (l.length + 1) (done ++ [(l.drop f).take (l.length - f)]) := by
  obtain ⟨h1, h2, h3, h4, h5⟩ := h
  obtain ⟨h6, h7⟩ := h4 (Nat.le_refl _)
  refine ⟨by omega, Nat.le_refl _, by simp; omega, fun hh => by omega, fun hh => ?_⟩
  have e : (l.drop f).take (l.length - f) = l.drop f := List.take_of_length_le (by simp)
  have hp := piece_no h6 (Nat.le_refl _)
  rw [e] at hp ⊢
  rw [spl_last _ hp] at h7
  exact h7
/-- the joining of some pieces -/
def jt (c : UInt8) (ss : List (List UInt8)) (k : Nat) : List UInt8 := Lib.join (ss.take k) [c]
theorem jt_zero (c : UInt8) (ss : List (List UInt8)) : jt c ss 0 = [] := by simp [jt, Lib.join_nil]
theorem jt_one (c : UInt8) (ss : List (List UInt8)) (h : 0 < ss.length) : jt c ss 1 = pc ss 0 := by
  cases ss with
  | nil => simp at h
  | cons p r => simp [jt, Lib.join_one, pc]
theorem jt_succ (c : UInt8) (ss : List (List UInt8)) (k : Nat) (h : k + 1 < ss.length) : jt c ss (k + 2) = jt c ss (k + 1) ++ [c] ++ pc ss (k + 1) := by
  cases ss with
  | nil => simp at h
  | cons p r =>
    have hk : k < r.length := by simpa using h
    have e := Lib.joinTail_take_succ [c] r k r[k] (by simp [hk])
    simp only [jt, List.take_succ_cons, Lib.join_cons, e, pc]
    simp [hk]
theorem jt_all (c : UInt8) (ss : List (List UInt8)) : jt c ss ss.length = Lib.join ss [c] := by simp [jt]
theorem jt_len (c : UInt8) (ss : List (List UInt8)) (K : Nat) (hK : ∀ k, k < ss.length → (pc ss k).length ≤ K) : ∀ k, k ≤ ss.length → (jt c ss k).length ≤ (K + 1) * k
  | 0, _ => by rw [jt_zero]; simp
  | 1, h => by rw [jt_one c ss (by omega)]; have := hK 0 (by omega); omega
  | k + 2, h => by
    have ih := jt_len c ss K hK (k + 1) (by omega)
    have := hK (k + 1) (by omega)
    rw [jt_succ c ss k (by omega), List.length_append, List.length_append, Nat.mul_succ (K + 1) (k + 1)]
    simp only [List.length_singleton]; omega
theorem pc_map {T : Type} (f : T → List UInt8) (xs : List T) (d : T) {k : Nat} (h : k < xs.length) : pc (xs.map f) k = f (xs.getD k d) := by simp [pc, h]
theorem rowT_len (x : List Int) : (rowT x).length ≤ 9 * x.length := by
  have := jt_len 44 (x.map valT) 8 (fun k hk => by rw [pc_map valT x 0 (by simpa using hk)]; exact valT_len _) (x.map valT).length (Nat.le_refl _)
  rw [jt_all] at this
  simpa [rowT] using this
theorem ret_str {a b : List UInt8} (h : a = b) : Ending.returned (.string ⟨a.toArray⟩) = .returned (.string ⟨b.toArray⟩) := by rw [h]
theorem app_eq (a b : List UInt8) : (⟨a.toArray⟩ : ByteArray) ++ ⟨b.toArray⟩ = ⟨(a ++ b).toArray⟩ := by
  have := ByteArray.mk_append_mk a b
  simpa using this
set_option maxHeartbeats 1000000 in
theorem l01Split_c (l : List UInt8) (c : UInt8) (z : Int) (hz : (c.toNat : Int) = z) (hl : l.length ≤ 100000000) (w : World) : Calls Tryz.prog 20 #[.string ⟨l.toArray⟩, .int .u8 z] w (GivesS w (spl c l)) := by
  subst hz
  have hsz := size_mk l
  have hO0 := OwnS.empty w w.heap.size (Nat.le_refl _)
  have hE0 := (Ext.refl w).alloc (.cells #[] 9)
  have hI0 := SpI.start c l
  go_enter Tryz.func20, Tryz.ntmps20
  go_wp2
  go_loopw [5, 6, 7] (fun s f i wr => ∃ (m k : Nat) (done : List (List UInt8)), k ≤ l.length + 1 ∧ f = .int .i64 m ∧ i = .int .i64 k ∧ Ext w wr ∧ OwnS wr w.heap.size s done ∧ SpI c l m k done) (fun _ _ i _ => l.length + 1 - (intOf i).toNat)
  case atStart => exact ⟨0, 0, [], Nat.zero_le _, rfl, rfl, hE0, hO0, hI0⟩
  case round =>
    obtain ⟨m, k, done, hk, rfl, rfl, hE, hO, hI⟩ := hrel
    clear hO0 hE0 hI0
    have hmk : m ≤ k := hI.2.1
    have hdl : done.length ≤ 1000000000 := by have := hI.2.2.1; omega
    have hs := (hE.alloc (.cells #[.string ⟨((l.drop m).take (k - m)).toArray⟩] 9)).size
    have hx := ext_eq l m k
    by_cases hlt : k < l.length
    · have hix : ∀ w : World, (Instr.index 9 (.string ⟨l.toArray⟩) (.int .i64 (k : Int))).run Tryz.prog w = .ok (.int .u8 (bt l k : Int)) w := by
        intro w
        rw [run_index_string _ _ _ _ _ Tryz.underlying9, dif_pos ⟨by omega, by rw [hsz]; omega⟩]
        have : ((⟨l.toArray⟩ : ByteArray)[(k : Int).toNat]'(by rw [hsz]; omega)).toNat = bt l k := by
          rw [← bt_at l k hlt]; rfl
        rw [this]
      have hne : ((k : Int) == (l.length : Int)) = false := by simp; omega
      by_cases hb : bt l k = c.toNat
      · have HI := Lib.hid (hI.cut hlt hb)
        have hb' : ((bt l k : Int) == (c.toNat : Int)) = true := by simp; omega
        clear hI hb
        go_wp2_with (at_builtin; refine app_s rfl _ _ rfl w.heap.size _ _ rfl (hO.ext ((Ext.refl wr).alloc _)) ⟨wr.heap.size, 0, none⟩ 1 ((l.drop m).take (k - m)) rfl (cell_one _ _ _) hdl hs ?_)
        intro v' w' hO4 hg
        go_wp2
        go_roundw
        case rel => exact ⟨k + 1, k + 1, _, by omega, by go_num, by go_num, grown_s hE hO (Nat.le_refl _) hg, hO4, HI.out⟩
        case measure => simp [intOf]; omega
      · have HI := Lib.hid (hI.keep hlt hb)
        have hb' : ((bt l k : Int) == (c.toNat : Int)) = false := by simp; omega
        clear hI hb
        go_wp2
        go_roundw
        case rel => exact ⟨m, k + 1, _, by omega, rfl, by go_num, hE, hO, HI.out⟩
        case measure => simp [intOf]; omega
    · by_cases heq : k = l.length
      · subst heq
        have HI := Lib.hid hI.last
        clear hI
        go_wp2_with (at_builtin; refine app_s rfl _ _ rfl w.heap.size _ _ rfl (hO.ext ((Ext.refl wr).alloc _)) ⟨wr.heap.size, 0, none⟩ 1 ((l.drop m).take (l.length - m)) rfl (cell_one _ _ _) hdl hs ?_)
        intro v' w' hO4 hg
        go_wp2
        go_roundw
        case rel => exact ⟨l.length + 1, l.length + 1, _, by omega, by go_num, by go_num, grown_s hE hO (Nat.le_refl _) hg, hO4, HI.out⟩
        case measure => simp [intOf]
      · have hgt : l.length < k := by omega
        have he := hI.2.2.2.2 hgt
        subst he
        clear hI
        go_wp2
        go_ret
        obtain ⟨a', cap', rfl, _⟩ := hO.at
        exact ⟨a', cap', rfl, hO, hE⟩
set_option maxHeartbeats 1000000 in
theorem l02Row_c (a : Option Addr) (cap : Nat) (x : List Int) (w : World) (h : IntsAt w a x) (hv : allV x = true) (hl : x.length ≤ 1000000) : Calls Tryz.prog 23 #[.slice a x.length cap] w fun e w' => e = .returned (.string ⟨(rowT x).toArray⟩) ∧ Ext w w' := by
  have hlen := fun k => jt_len 44 (x.map valT) 8 (fun k hk => by rw [pc_map valT x 0 (by simpa using hk)]; exact valT_len _) k
  have h0 := jt_zero 44 (x.map valT)
  have hend : rowT x = jt 44 (x.map valT) x.length := by have := jt_all 44 (x.map valT); rw [List.length_map] at this; rw [this]; rfl
  have HN := Lib.hid hlen
  have HE := Lib.hid hend
  have H0 := Lib.hid h0
  have hv' := allV_iff.1 hv
  clear hlen hend h0 hv
  go_enter Tryz.func23, Tryz.ntmps23
  go_wp2
  go_loopw [3, 4] (fun s i wr => ∃ k : Nat, k ≤ x.length ∧ i = .int .i64 k ∧ s = .string ⟨(jt 44 (x.map valT) k).toArray⟩ ∧ Ext w wr) (fun _ i _ => x.length - (intOf i).toNat)
  case atStart => exact ⟨0, Nat.zero_le _, rfl, by rw [H0.out], Ext.refl _⟩
  case round =>
    obtain ⟨k, hk, rfl, hs, hE⟩ := hrel
    have hjl := HN.out k (by simpa using hk)
    by_cases hlt : k < x.length
    · obtain ⟨b, o, rfl, hc⟩ := (h.mono hE).at hlt
      have c1 := hc k hlt
      have hvk := hv' k hlt
      have hpk : pc (x.map valT) k = valT (nth x k) := pc_map valT x 0 hlt
      clear hc hv'
      have hvl := valT_len (nth x k)
      have HT := Lib.hid (l01Text_c (nth x k) hvk)
      by_cases hk0 : k = 0
      · subst hk0
        have hj := jt_one 44 (x.map valT) (by simpa using hlt)
        rw [hpk] at hj
        rw [H0.out] at hs
        subst hs
        rw [Nat.add_zero] at c1
        have HJ := Lib.hid hj
        have happ := app_eq [] (valT (nth x 0))
        rw [List.nil_append] at happ
        clear hpk hj hjl
        go_wp2_with fail
        refine (HT.out _).mono ?_
        rintro e w2 ⟨rfl, hE2⟩
        go_wp2
        go_roundw
        case rel => exact ⟨1, by omega, by go_num, by rw [HJ.out], hE.trans hE2⟩
        case measure => simp [intOf]; omega
      · obtain ⟨q, rfl⟩ : ∃ q, k = q + 1 := ⟨k - 1, by omega⟩
        have hj := jt_succ 44 (x.map valT) q (by simpa using hlt)
        rw [hpk] at hj
        subst hs
        have HJ := Lib.hid hj
        have happ := app_eq (jt 44 (x.map valT) (q + 1)) [44]
        have happ2 := app_eq (jt 44 (x.map valT) (q + 1) ++ [44]) (valT (nth x (q + 1)))
        have hs1 : ¬ 9223372036854775807 < (jt 44 (x.map valT) (q + 1)).length + 1 := by omega
        have hs2 : ¬ 9223372036854775807 < (jt 44 (x.map valT) (q + 1)).length + 1 + (valT (nth x (q + 1))).length := by omega
        clear hpk hj hjl
        go_wp2_with fail
        refine (HT.out _).mono ?_
        rintro e w2 ⟨rfl, hE2⟩
        go_wp2
        go_roundw
        case rel => exact ⟨q + 1 + 1, by omega, by go_num, by rw [HJ.out]; simp, hE.trans hE2⟩
        case measure => simp [intOf]; omega
    · obtain rfl : k = x.length := by omega
      subst hs
      go_wp2
      go_ret
      exact ⟨ret_str (by rw [HE.out]), hE⟩
theorem isMat_row {m : List (List Int)} (h : isMat m = true) (i : Nat) (hi : i < m.length) : (row m i).length ≤ 10 ∧ allV (row m i) = true := by
  rw [row_of_lt hi]
  have := (isMat_mem h).2.2 _ (List.getElem_mem hi)
  exact this.2
set_option maxHeartbeats 1000000 in
theorem specMatrixText_c (a : Option Addr) (cap : Nat) (m : List (List Int)) (w : World) (h : MatAt w a m) : Calls Tryz.prog 10 #[.slice a m.length cap] w fun e w' => e = .returned (.string ⟨(matT m).toArray⟩) ∧ Ext w w' := by
  have HM := Lib.hid (sIsMatrix_c a cap m w h)
  cases hm : isMat m
  · have e := matT_no hm
    have HE := Lib.hid e
    have HF := Lib.hid hm
    clear hm e
    go_enter Tryz.func10, Tryz.ntmps10
    go_wp2_with fail
    refine (asB HF.out HM.out).mono ?_
    rintro e w2 ⟨rfl, hQ⟩
    go_wp2
    go_ret
    exact ⟨ret_str (b := matT m) (a := []) (by rw [HE.out]), hQ.ext⟩
  · have hr := isMat_row hm
    have hlen := fun k => jt_len 59 (m.map rowT) 90 (fun k hk => by
      rw [pc_map rowT m [] (by simpa using hk)]
      have h1 := rowT_len (row m k)
      have h2 := (hr k (by simpa using hk)).1
      show (rowT (row m k)).length ≤ 90
      omega) k
    have h0 := jt_zero 59 (m.map rowT)
    have hend : matT m = jt 59 (m.map rowT) m.length := by
      have := jt_all 59 (m.map rowT); rw [List.length_map] at this; rw [this]; unfold matT; rw [if_pos hm]
    have hml : m.length ≤ 10 := (isMat_mem hm).2.1
    have HN := Lib.hid hlen
    have HE := Lib.hid hend
    have H0 := Lib.hid h0
    have HF := Lib.hid hm
    have HR := Lib.hid hr
    have HA := Lib.hid h
    clear hlen hend h0 hm hr h
    go_enter Tryz.func10, Tryz.ntmps10
    go_wp2_with fail
    refine (asB HF.out HM.out).mono ?_
    rintro e w1 ⟨rfl, hQ⟩
    have hE1 := hQ.ext
    clear hQ
    go_wp2
    go_loopw [3, 4] (fun s i wr => ∃ k : Nat, k ≤ m.length ∧ i = .int .i64 k ∧ s = .string ⟨(jt 59 (m.map rowT) k).toArray⟩ ∧ Ext w wr) (fun _ i _ => m.length - (intOf i).toNat)
    case atStart => exact ⟨0, Nat.zero_le _, rfl, by rw [H0.out], hE1⟩
    case round =>
      obtain ⟨k, hk, rfl, hs, hE⟩ := hrel
      clear hE1
      have hjl := HN.out k (by simpa using hk)
      by_cases hlt : k < m.length
      · obtain ⟨b, o, rfl, hc⟩ := (HA.out.mono hE).at hlt
        obtain ⟨ai, ci, c1, hrow, -⟩ := hc k hlt
        have hpk : pc (m.map rowT) k = rowT (row m k) := pc_map rowT m [] hlt
        have hrl := HR.out k hlt
        clear hc
        have hvl := rowT_len (row m k)
        have HT := Lib.hid (l02Row_c ai ci (row m k) wr hrow hrl.2 (by omega))
        have hr10 := hrl.1
        clear hrow hrl
        by_cases hk0 : k = 0
        · subst hk0
          have hj := jt_one 59 (m.map rowT) (by simpa using hlt)
          rw [hpk] at hj
          rw [H0.out] at hs
          subst hs
          rw [Nat.add_zero] at c1
          have HJ := Lib.hid hj
          have happ := app_eq [] (rowT (row m 0))
          rw [List.nil_append] at happ
          clear hpk hj hjl
          go_wp2_with fail
          refine HT.out.mono ?_
          rintro e w2 ⟨rfl, hE2⟩
          go_wp2
          go_roundw
          case rel => exact ⟨1, by omega, by go_num, by rw [HJ.out], hE.trans hE2⟩
          case measure => simp [intOf]; omega
        · obtain ⟨q, rfl⟩ : ∃ q, k = q + 1 := ⟨k - 1, by omega⟩
          have hj := jt_succ 59 (m.map rowT) q (by simpa using hlt)
          rw [hpk] at hj
          subst hs
          have HJ := Lib.hid hj
          have happ := app_eq (jt 59 (m.map rowT) (q + 1)) [59]
          have happ2 := app_eq (jt 59 (m.map rowT) (q + 1) ++ [59]) (rowT (row m (q + 1)))
          have hs1 : ¬ 9223372036854775807 < (jt 59 (m.map rowT) (q + 1)).length + 1 := by omega
          have hs2 : ¬ 9223372036854775807 < (jt 59 (m.map rowT) (q + 1)).length + 1 + (rowT (row m (q + 1))).length := by omega
          clear hpk hj hjl
          go_wp2_with fail
          refine HT.out.mono ?_
          rintro e w2 ⟨rfl, hE2⟩
          go_wp2
          go_roundw
          case rel => exact ⟨q + 1 + 1, by omega, by go_num, by rw [HJ.out]; simp, hE.trans hE2⟩
          case measure => simp [intOf]; omega
      · obtain rfl : k = m.length := by omega
        subst hs
        go_wp2
        go_ret
        exact ⟨ret_str (by rw [HE.out]), hE⟩
end Go.Proofs.YtkipbfjkcdccjaaGreatDoor
