/- Contracts of reading rows and matrices, the program's side. Conditions: what the library reads lies in memory. -/
import Derived.Test.YtkipbfjkcdccjaaDoorT3
import Derived.Test.YtkipbfjkcdccjaaDoorT8
namespace Go.Proofs.YtkipbfjkcdccjaaDoor
set_option linter.unusedVariables false
set_option linter.unusedSimpArgs false
open Go.RowKit

/-- the library's bound on a short text is a number -/
def Mx (w : World) : Prop := ∃ m, w.cell? ⟨0, 0, none⟩ = some (.int .i64 m)
theorem Mx.ext {w w' : World} (h : Mx w) (e : Ext w w') : Mx w' := by obtain ⟨m, h⟩ := h; exact ⟨m, e.cell h⟩
/-- all that the library reads -/
def Lb (w : World) : Prop := Tb w ∧ Sn w ∧ Mx w
theorem Lb.ext {w w' : World} (h : Lb w) (e : Ext w w') : Lb w' := ⟨h.1.ext e, h.2.1.ext e, h.2.2.ext e⟩
theorem split_c (l : List UInt8) (c : UInt8) (hl : l.length ≤ 100000000) (w : World) (h : Mx w) : Calls Tryd.prog 27 #[.string ⟨l.toArray⟩, .string ⟨#[c]⟩] w fun e w' => ∃ a, e = .returned (.slice a (spl c l).length (spl c l).length) ∧ StrsAt w' a (spl c l) ∧ Ext w w' := by
  obtain ⟨m, hm⟩ := h
  have hsz := size_mk l
  refine (Tryd.strings_Split ⟨l.toArray⟩ ⟨#[c]⟩ m w (by rw [hsz]; omega) hm (Nat.le_refl 1)).mono ?_
  rintro e w' ⟨rfl, rfl⟩
  have hd := Lib.splitB_data ⟨#[c]⟩ 0 (Lib.countB ⟨l.toArray⟩ ⟨#[c]⟩) ⟨l.toArray⟩
  have he : (Lib.splitB ⟨#[c]⟩ 0 (Lib.countB ⟨l.toArray⟩ ⟨#[c]⟩) ⟨l.toArray⟩).map (·.data.toList) = spl c l := by
    rw [hd]
    show Lib.splitK [c] 0 (Lib.count l [c]) l = spl c l
    exact splitK_spl c l
  have hlen := Lib.splitB_all ⟨#[c]⟩ (Nat.le_refl 1) 0 _ ⟨l.toArray⟩ rfl
  have hlen2 : (spl c l).length = Lib.countB ⟨l.toArray⟩ ⟨#[c]⟩ + 1 := by rw [← he, List.length_map, hlen]
  generalize Lib.splitB ⟨#[c]⟩ 0 (Lib.countB ⟨l.toArray⟩ ⟨#[c]⟩) ⟨l.toArray⟩ = bs at he hlen
  refine ⟨_, by rw [hlen2], ?_, (Ext.refl w).alloc _⟩
  have hcn := spl_count c l
  refine ⟨by omega, fun _ => ⟨w.heap.size, 0, rfl, fun i hi => ?_⟩⟩
  have hib : i < bs.length := by omega
  have e2 : pc (spl c l) i = bs[i].data.toList := by rw [pc_at hi]; simp [← he]
  rw [e2]
  have e3 : (w.alloc (.cells (bs.map Value.string).toArray 9)).cell? ⟨w.heap.size, 0 + i, none⟩ = some (.string bs[i]) := by simp [hib]
  exact e3
set_option maxHeartbeats 1000000 in
theorem readValues_c (l : List UInt8) (hl : l.length ≤ 100000000) (w : World) (hb : Lb w) : Calls Tryd.prog 28 #[.string ⟨l.toArray⟩] w (GivesR w l) := by
  have HS := Lib.hid (split_c l 44 hl w hb.2.2)
  have hcn := spl_count 44 l
  have HL := Lib.hid hb
  clear hb
  go_enter Tryd.func28, Tryd.ntmps28
  go_wp2_with fail
  refine HS.out.mono ?_
  rintro e w1 ⟨aw, rfl, hS, hE1⟩
  have hO0 := OwnI.nil w1 w1.heap.size
  have hE0 := Ext.refl w1
  have HW := Lib.hid hS
  have HA := Lib.hid (upV_all l)
  have HB := Lib.hid (fun k => pc_len 44 l k)
  clear hS
  have HE1 := Lib.hid hE1
  have hsz1 := hE1.size
  clear hE1
  have hok : ∀ k, k < (spl 44 l).length → (rdV (pc (spl 44 l) k)).2 = false → rwOk l = false := fun k hk h => all_pc_no (f := fun w => (rdV w).2) hk h
  have hok2 : (∀ k, k < (spl 44 l).length → (rdV (pc (spl 44 l) k)).2 = true) → rwOk l = true := fun h => all_pc.2 h
  have HK := Lib.hid hok
  have HK2 := Lib.hid hok2
  clear hok hok2
  go_wp2
  go_loopw [4, 12] (fun s i wr => ∃ k : Nat, k ≤ (spl 44 l).length ∧ i = .int .i64 k ∧ Ext w1 wr ∧ OwnI wr w1.heap.size s (upV (spl 44 l) k) ∧ Hid (∀ j, j < k → (rdV (pc (spl 44 l) j)).2 = true)) (fun _ i _ => (spl 44 l).length - (intOf i).toNat)
  case atStart => exact ⟨0, Nat.zero_le _, rfl, hE0, hO0, Lib.hid fun j hj => absurd hj (Nat.not_lt_zero _)⟩
  case round =>
    obtain ⟨k, hk, rfl, hE, hO, hJ⟩ := hrel
    clear hO0 hE0
    by_cases hlt : k < (spl 44 l).length
    · obtain ⟨b, o, rfl, hc⟩ := (HW.out.mono hE).at hlt
      have c1 := hc k hlt
      clear hc
      have hpl := HB.out k
      have HLr := Lib.hid ((HL.out.ext HE1.out).ext hE)
      have hrd := implReadValue_c (pc (spl 44 l) k) (by omega) wr HLr.out.1 HLr.out.2.1
      obtain ⟨⟨n, ok⟩, hq⟩ : ∃ p, rdV (pc (spl 44 l) k) = p := ⟨_, rfl⟩
      rw [hq] at hrd
      have HQ := Lib.hid hq
      have HD := Lib.hid hrd
      clear hq hrd
      cases ok
      · go_wp2_with fail
        refine HD.out.mono ?_
        rintro e w2 ⟨rfl, hE2⟩
        go_wp2
        go_ret2
        exact GivesR.no (HK.out k hlt (by rw [HQ.out])) (HE1.out.trans (hE.trans hE2))
      · go_wp2_with fail
        refine HD.out.mono ?_
        rintro e w2 ⟨rfl, hE2⟩
        have hln : (upV (spl 44 l) k).length ≤ 1000000000 := by have := upV_len (spl 44 l) k; omega
        have hs2 : w1.heap.size ≤ (w2.alloc (.cells #[.int .i64 n] 2)).heap.size := ((hE.trans hE2).alloc _).size
        have hup := upV_succ hlt
        rw [HQ.out] at hup
        have HU := Lib.hid hup
        clear hup
        go_wp2_with (at_builtin; refine app_i rfl _ _ rfl w1.heap.size _ _ rfl ((hO.ext hE2).ext ((Ext.refl w2).alloc _)) ⟨w2.heap.size, 0, none⟩ 1 n rfl (cell_one _ _ _) hln hs2 ?_)
        intro v' w' hO4 hg
        go_wp2
        go_roundw
        case rel => exact ⟨k + 1, by omega, by go_num, grown_i (hE.trans hE2) (hO.ext hE2) (Nat.le_refl _) hg, by rw [HU.out]; exact hO4, Lib.hid fun j hj => by
          by_cases e : j = k
          · subst e; rw [HQ.out]
          · exact hJ.out j (by omega)⟩
        case measure => simp [intOf]; omega
    · obtain rfl : k = (spl 44 l).length := by omega
      rw [HA.out] at hO
      obtain ⟨ar, cr, rfl, -⟩ := hO.at
      go_wp2
      go_ret2
      exact GivesR.yes (HK2.out hJ.out) rfl (HE1.out.trans hE) (hO.mono hsz1)
set_option maxHeartbeats 1000000 in
theorem implReadMatrix_c (l : List UInt8) (hl : l.length ≤ 100000000) (w : World) (hb : Lb w) : Calls Tryd.prog 9 #[.string ⟨l.toArray⟩] w (GivesRM w l) := by
  have hsz := size_mk l
  by_cases hbig : 900 < l.length
  · have HN : Hid (rdM l = false) := Lib.hid (by
      rw [Bool.eq_false_iff]; intro e; have := rdM_len e; omega)
    clear hb
    go_enter Tryd.func9, Tryd.ntmps9
    go_wp2
    go_ret2
    exact GivesRM.no HN.out (Ext.refl _)
  · have HS := Lib.hid (split_c l 59 hl w hb.2.2)
    have hcn := spl_count 59 l
    have HL := Lib.hid hb
    clear hb
    go_enter Tryd.func9, Tryd.ntmps9
    go_wp2_with fail
    refine HS.out.mono ?_
    rintro e w1 ⟨aw, rfl, hS, hE1⟩
    have hO0 := OwnM.nil w1 w1.heap.size
    have hE0 := Ext.refl w1
    have HW := Lib.hid hS
    have HA := Lib.hid (upM_all l)
    have HB := Lib.hid (fun k => pc_len 59 l k)
    clear hS
    have HE1 := Lib.hid hE1
    have hsz1 := hE1.size
    clear hE1
    have hok : ∀ k, k < (spl 59 l).length → rwOk (pc (spl 59 l) k) = false → rdM l = false := fun k hk h => by
      unfold rdM mtOk; rw [all_pc_no hk h]; rfl
    have hok2 : (∀ k, k < (spl 59 l).length → rwOk (pc (spl 59 l) k) = true) → rdM l = isMat (mtV l) := fun h => by
      unfold rdM mtOk; rw [all_pc.2 h]; rfl
    have HK := Lib.hid hok
    have HK2 := Lib.hid hok2
    clear hok hok2
    go_wp2
    go_loopw [4, 15] (fun s i wr => ∃ k : Nat, k ≤ (spl 59 l).length ∧ i = .int .i64 k ∧ Ext w1 wr ∧ OwnM wr w1.heap.size s (upM (spl 59 l) k) ∧ Hid (∀ j, j < k → rwOk (pc (spl 59 l) j) = true)) (fun _ i _ => (spl 59 l).length - (intOf i).toNat)
    case atStart => exact ⟨0, Nat.zero_le _, rfl, hE0, hO0, Lib.hid fun j hj => absurd hj (Nat.not_lt_zero _)⟩
    case round =>
      obtain ⟨k, hk, rfl, hE, hO, hJ⟩ := hrel
      clear hO0 hE0
      by_cases hlt : k < (spl 59 l).length
      · obtain ⟨b, o, rfl, hc⟩ := (HW.out.mono hE).at hlt
        have c1 := hc k hlt
        clear hc
        have hpl := HB.out k
        have HD := Lib.hid (readValues_c (pc (spl 59 l) k) (by omega) wr ((HL.out.ext HE1.out).ext hE))
        go_wp2_with fail
        refine HD.out.mono ?_
        rintro e w2 ⟨hE2, ⟨hy, ar, cr, rfl, hO2⟩ | ⟨hn, rfl⟩⟩
        · have hln : (upM (spl 59 l) k).length ≤ 1000000000 := by have := upM_len (spl 59 l) k; omega
          have hE3 := hE2.alloc (.cells #[.slice ar (rwV (pc (spl 59 l) k)).length cr] 41)
          have HU := Lib.hid (upM_succ hlt)
          have HY := Lib.hid hy
          clear hy
          go_wp2_with (at_builtin; refine app_m rfl _ _ rfl w1.heap.size _ _ rfl hO hE3 ⟨w2.heap.size, 0, none⟩ 1 ar cr (rwV (pc (spl 59 l) k)) rfl (cell_one _ _ _) (hO2.ext ((Ext.refl w2).alloc _)) hln hE.size ?_)
          intro v' w' hO4 hg
          go_wp2
          go_roundw
          case rel => exact ⟨k + 1, by omega, by go_num, grown_m (hE.trans hE2) (hO.ext hE2) (Nat.le_refl _) hg, by rw [HU.out]; exact hO4, Lib.hid fun j hj => by
            by_cases e : j = k
            · subst e; exact HY.out
            · exact hJ.out j (by omega)⟩
          case measure => simp [intOf]; omega
        · have HN := Lib.hid hn
          clear hn
          go_wp2
          go_ret2
          exact GivesRM.no (HK.out k hlt HN.out) (HE1.out.trans (hE.trans hE2))
      · obtain rfl : k = (spl 59 l).length := by omega
        rw [HA.out] at hO
        obtain ⟨ar, cr, rfl, hM⟩ := hO.at
        have HM := Lib.hid (isMatrix_c ar cr (mtV l) wr hM)
        have he := HK2.out hJ.out
        cases hm : isMat (mtV l)
        · rw [hm] at he
          have HF := Lib.hid hm
          have HN := Lib.hid he
          clear hm he
          go_wp2_with fail
          refine (asB HF.out HM.out).mono ?_
          rintro e w2 ⟨rfl, hQ⟩
          go_wp2
          go_ret2
          exact GivesRM.no HN.out (HE1.out.trans (hE.trans hQ))
        · rw [hm] at he
          have HF := Lib.hid hm
          have HN := Lib.hid he
          clear hm he
          go_wp2_with fail
          refine (asB HF.out HM.out).mono ?_
          rintro e w2 ⟨rfl, hQ⟩
          go_wp2
          go_ret2
          exact GivesRM.yes HN.out rfl (HE1.out.trans (hE.trans hQ)) ((hO.mono hsz1).ext hQ)
end Go.Proofs.YtkipbfjkcdccjaaDoor
