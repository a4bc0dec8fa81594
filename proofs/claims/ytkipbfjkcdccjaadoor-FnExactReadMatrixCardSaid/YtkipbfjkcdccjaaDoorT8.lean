/- Contracts of reading rows and matrices, the reference's side. Conditions: the texts' length. -/
import Derived.Test.YtkipbfjkcdccjaaDoorT7
namespace Go.Proofs.YtkipbfjkcdccjaaDoor
set_option linter.unusedVariables false
set_option linter.unusedSimpArgs false
open Go.RowKit

theorem pc_len (c : UInt8) (l : List UInt8) (k : Nat) : (pc (spl c l) k).length ≤ l.length := by
  have h := spl_lens c l
  by_cases hk : k < (spl c l).length
  · rw [pc_at hk]
    have h1 : ((spl c l)[k]).length ≤ Lib.lens (spl c l) := by
      have key : ∀ (ss : List (List UInt8)) (p : List UInt8), p ∈ ss → p.length ≤ Lib.lens ss := fun ss => by
        induction ss with
        | nil => intro p hp; simp at hp
        | cons q ss ih =>
          intro p hp
          simp only [Lib.lens, List.map_cons, List.sum_cons] at ih ⊢
          rcases List.mem_cons.1 hp with rfl | hp
          · omega
          · have := ih p hp; omega
      exact key _ _ (List.getElem_mem hk)
    omega
  · simp [pc, hk]
theorem all_pc {f : List UInt8 → Bool} {ws : List (List UInt8)} : ws.all f = true ↔ ∀ k, k < ws.length → f (pc ws k) = true := by
  rw [List.all_eq_true]
  refine ⟨fun h k hk => by rw [pc_at hk]; exact h _ (List.getElem_mem hk), fun h w hw => ?_⟩
  obtain ⟨k, hk, rfl⟩ := List.getElem_of_mem hw
  have := h k hk
  rwa [pc_at hk] at this
theorem all_pc_no {f : List UInt8 → Bool} {ws : List (List UInt8)} {k : Nat} (hk : k < ws.length) (h : f (pc ws k) = false) : ws.all f = false := by
  rw [Bool.eq_false_iff]; intro e
  rw [all_pc.1 e k hk] at h; simp at h
/-- what has been read of some words, and of some rows -/
def upV (ws : List (List UInt8)) (k : Nat) : List Int := (ws.take k).map fun w => (rdV w).1
def upM (ws : List (List UInt8)) (k : Nat) : List (List Int) := (ws.take k).map rwV
theorem upV_succ {ws : List (List UInt8)} {k : Nat} (h : k < ws.length) : upV ws (k + 1) = upV ws k ++ [(rdV (pc ws k)).1] := by
  unfold upV; rw [List.take_succ_eq_append_getElem h, List.map_append, pc_at h]; rfl
theorem upM_succ {ws : List (List UInt8)} {k : Nat} (h : k < ws.length) : upM ws (k + 1) = upM ws k ++ [rwV (pc ws k)] := by
  unfold upM; rw [List.take_succ_eq_append_getElem h, List.map_append, pc_at h]; rfl
theorem upV_len (ws : List (List UInt8)) (k : Nat) : (upV ws k).length ≤ k := by unfold upV; simp; omega
theorem upM_len (ws : List (List UInt8)) (k : Nat) : (upM ws k).length ≤ k := by unfold upM; simp; omega
theorem upV_all (l : List UInt8) : upV (spl 44 l) (spl 44 l).length = rwV l := by unfold upV rwV; simp
theorem upM_all (l : List UInt8) : upM (spl 59 l) (spl 59 l).length = mtV l := by unfold upM mtV; simp
/-- a call that hands back a row that it has read -/
def GivesR (w : World) (l : List UInt8) (e : Ending) (w' : World) : Prop :=
  Ext w w' ∧ ((rwOk l = true ∧ ∃ a cap, e = .returned (.tuple #[.slice a (rwV l).length cap, .bool true]) ∧ OwnI w' w.heap.size (.slice a (rwV l).length cap) (rwV l)) ∨ (rwOk l = false ∧ e = .returned (.tuple #[.slice none 0 0, .bool false])))
def GivesRM (w : World) (l : List UInt8) (e : Ending) (w' : World) : Prop :=
  Ext w w' ∧ ((rdM l = true ∧ ∃ a cap, e = .returned (.tuple #[.slice a (mtV l).length cap, .bool true]) ∧ OwnM w' w.heap.size (.slice a (mtV l).length cap) (mtV l)) ∨ (rdM l = false ∧ e = .returned (.tuple #[.slice none 0 0, .bool false])))
theorem GivesR.no {w : World} {l : List UInt8} {w' : World} (h : rwOk l = false) (hE : Ext w w') : GivesR w l (.returned (.tuple #[.slice none 0 0, .bool false])) w' := ⟨hE, .inr ⟨h, rfl⟩⟩
theorem GivesR.yes {w : World} {l : List UInt8} {a : Option Addr} {n cap : Nat} {xs : List Int} {w' : World} (h : rwOk l = true) (hx : xs = rwV l) (hE : Ext w w') (hO : OwnI w' w.heap.size (.slice a n cap) xs) : GivesR w l (.returned (.tuple #[.slice a n cap, .bool true])) w' := by
  subst hx
  have := hO.len
  subst this
  exact ⟨hE, .inl ⟨h, a, cap, rfl, hO⟩⟩
theorem GivesRM.no {w : World} {l : List UInt8} {w' : World} (h : rdM l = false) (hE : Ext w w') : GivesRM w l (.returned (.tuple #[.slice none 0 0, .bool false])) w' := ⟨hE, .inr ⟨h, rfl⟩⟩
theorem GivesRM.yes {w : World} {l : List UInt8} {a : Option Addr} {n cap : Nat} {xs : List (List Int)} {w' : World} (h : rdM l = true) (hx : xs = mtV l) (hE : Ext w w') (hO : OwnM w' w.heap.size (.slice a n cap) xs) : GivesRM w l (.returned (.tuple #[.slice a n cap, .bool true])) w' := by
  subst hx
  have := hO.len
  subst this
  exact ⟨hE, .inl ⟨h, a, cap, rfl, hO⟩⟩
set_option maxHeartbeats 1000000 in
theorem l02Read_c (l : List UInt8) (hl : l.length ≤ 100000000) (w : World) : Calls Tryd.prog 25 #[.string ⟨l.toArray⟩] w (GivesR w l) := by
  have HS := Lib.hid (l01Split_c l 44 44 rfl hl w)
  have hcn := spl_count 44 l
  go_enter Tryd.func25, Tryd.ntmps25
  go_wp2_with fail
  refine HS.out.mono ?_
  rintro e w1 ⟨aw, cw, rfl, hW, hE1⟩
  obtain ⟨aw', cw', e1, hS, -⟩ := hW.at
  simp only [Value.slice.injEq, true_and] at e1
  obtain ⟨rfl, rfl⟩ := e1
  have hO0 := OwnI.empty w1 w1.heap.size (Nat.le_refl _)
  have hE0 := (Ext.refl w1).alloc (.cells #[] 2)
  have HW := Lib.hid hS
  have HA := Lib.hid (upV_all l)
  have HB := Lib.hid (fun k => pc_len 44 l k)
  clear hS hW
  have HE1 := Lib.hid hE1
  have hsz1 := hE1.size
  clear hE1
  have hok : ∀ k, k < (spl 44 l).length → (rdV (pc (spl 44 l) k)).2 = false → rwOk l = false := fun k hk h => all_pc_no (f := fun w => (rdV w).2) hk h
  have hok2 : (∀ k, k < (spl 44 l).length → (rdV (pc (spl 44 l) k)).2 = true) → rwOk l = true := fun h => all_pc.2 h
  have HK := Lib.hid hok
  have HK2 := Lib.hid hok2
  clear hok hok2
  go_wp2
  go_loopw [5, 6] (fun s i wr => ∃ k : Nat, k ≤ (spl 44 l).length ∧ i = .int .i64 k ∧ Ext w1 wr ∧ OwnI wr w1.heap.size s (upV (spl 44 l) k) ∧ Hid (∀ j, j < k → (rdV (pc (spl 44 l) j)).2 = true)) (fun _ i _ => (spl 44 l).length - (intOf i).toNat)
  case atStart => exact ⟨0, Nat.zero_le _, rfl, hE0, hO0, Lib.hid fun j hj => absurd hj (Nat.not_lt_zero _)⟩
  case round =>
    obtain ⟨k, hk, rfl, hE, hO, hJ⟩ := hrel
    clear hO0 hE0
    by_cases hlt : k < (spl 44 l).length
    · obtain ⟨b, o, rfl, hc⟩ := (HW.out.mono hE).at hlt
      have c1 := hc k hlt
      clear hc
      have hpl := HB.out k
      have hrd := fun w => specReadValue_c (pc (spl 44 l) k) (by omega) w
      obtain ⟨⟨n, ok⟩, hq⟩ : ∃ p, rdV (pc (spl 44 l) k) = p := ⟨_, rfl⟩
      rw [hq] at hrd
      have HQ := Lib.hid hq
      have HD := Lib.hid hrd
      clear hq hrd
      cases ok
      · go_wp2_with fail
        refine (HD.out _).mono ?_
        rintro e w2 ⟨rfl, hE2⟩
        go_wp2
        go_ret2
        exact GivesR.no (HK.out k hlt (by rw [HQ.out])) (HE1.out.trans (hE.trans hE2))
      · go_wp2_with fail
        refine (HD.out _).mono ?_
        rintro e w2 ⟨rfl, hE2⟩
        have hln : (upV (spl 44 l) k).length ≤ 1000000000 := by have := upV_len (spl 44 l) k; omega
        have hs2 : w1.heap.size ≤ (w2.alloc (.cells #[.int .i64 n] 2)).heap.size := ((hE.trans hE2).alloc _).size
        have hup := upV_succ hlt
        rw [HQ.out] at hup
        have HU := Lib.hid hup
        clear hup
        go_wp2_with (at_builtin; refine app_i rfl _ _ rfl w1.heap.size _ _ rfl ((hO.ext hE2).ext ((Ext.refl w2).alloc _)) ⟨w2.heap.size, 0, none⟩ 1 n rfl (cell_one _ _ _) hln hs2 ?_)
        intro v' w' hO4 hg
        go_wp2
        go_roundw
        case rel => exact ⟨k + 1, by omega, by go_num, grown_i (hE.trans hE2) (hO.ext hE2) (Nat.le_refl _) hg, by rw [HU.out]; exact hO4, Lib.hid fun j hj => by
          by_cases e : j = k
          · subst e; rw [HQ.out]
          · exact hJ.out j (by omega)⟩
        case measure => simp [intOf]; omega
    · obtain rfl : k = (spl 44 l).length := by omega
      rw [HA.out] at hO
      obtain ⟨ar, cr, rfl, -⟩ := hO.at
      go_wp2
      go_ret2
      exact GivesR.yes (HK2.out hJ.out) rfl (HE1.out.trans hE) (hO.mono hsz1)
set_option maxHeartbeats 1000000 in
theorem specReadMatrix_c (l : List UInt8) (hl : l.length ≤ 100000000) (w : World) : Calls Tryd.prog 8 #[.string ⟨l.toArray⟩] w (GivesRM w l) := by
  have HS := Lib.hid (l01Split_c l 59 59 rfl hl w)
  have hcn := spl_count 59 l
  go_enter Tryd.func8, Tryd.ntmps8
  go_wp2_with fail
  refine HS.out.mono ?_
  rintro e w1 ⟨aw, cw, rfl, hW, hE1⟩
  obtain ⟨aw', cw', e1, hS, -⟩ := hW.at
  simp only [Value.slice.injEq, true_and] at e1
  obtain ⟨rfl, rfl⟩ := e1
  have hO0 := OwnM.empty w1 w1.heap.size (Nat.le_refl _)
  have hE0 := (Ext.refl w1).alloc (.cells #[] 41)
  have HW := Lib.hid hS
  have HA := Lib.hid (upM_all l)
  have HB := Lib.hid (fun k => pc_len 59 l k)
  clear hS hW
  have HE1 := Lib.hid hE1
  have hsz1 := hE1.size
  clear hE1
  have hok : ∀ k, k < (spl 59 l).length → rwOk (pc (spl 59 l) k) = false → rdM l = false := fun k hk h => by
    unfold rdM mtOk; rw [all_pc_no hk h]; rfl
  have hok2 : (∀ k, k < (spl 59 l).length → rwOk (pc (spl 59 l) k) = true) → rdM l = isMat (mtV l) := fun h => by
    unfold rdM mtOk; rw [all_pc.2 h]; rfl
  have HK := Lib.hid hok
  have HK2 := Lib.hid hok2
  clear hok hok2
  go_wp2
  go_loopw [5, 6] (fun s i wr => ∃ k : Nat, k ≤ (spl 59 l).length ∧ i = .int .i64 k ∧ Ext w1 wr ∧ OwnM wr w1.heap.size s (upM (spl 59 l) k) ∧ Hid (∀ j, j < k → rwOk (pc (spl 59 l) j) = true)) (fun _ i _ => (spl 59 l).length - (intOf i).toNat)
  case atStart => exact ⟨0, Nat.zero_le _, rfl, hE0, hO0, Lib.hid fun j hj => absurd hj (Nat.not_lt_zero _)⟩
  case round =>
    obtain ⟨k, hk, rfl, hE, hO, hJ⟩ := hrel
    clear hO0 hE0
    by_cases hlt : k < (spl 59 l).length
    · obtain ⟨b, o, rfl, hc⟩ := (HW.out.mono hE).at hlt
      have c1 := hc k hlt
      clear hc
      have hpl := HB.out k
      have HD := Lib.hid (l02Read_c (pc (spl 59 l) k) (by omega) wr)
      go_wp2_with fail
      refine HD.out.mono ?_
      rintro e w2 ⟨hE2, ⟨hy, ar, cr, rfl, hO2⟩ | ⟨hn, rfl⟩⟩
      · have hln : (upM (spl 59 l) k).length ≤ 1000000000 := by have := upM_len (spl 59 l) k; omega
        have hE3 := hE2.alloc (.cells #[.slice ar (rwV (pc (spl 59 l) k)).length cr] 41)
        have HU := Lib.hid (upM_succ hlt)
        have HY := Lib.hid hy
        clear hy
        go_wp2_with (at_builtin; refine app_m rfl _ _ rfl w1.heap.size _ _ rfl hO hE3 ⟨w2.heap.size, 0, none⟩ 1 ar cr (rwV (pc (spl 59 l) k)) rfl (cell_one _ _ _) (hO2.ext ((Ext.refl w2).alloc _)) hln hE.size ?_)
        intro v' w' hO4 hg
        go_wp2
        go_roundw
        case rel => exact ⟨k + 1, by omega, by go_num, grown_m (hE.trans hE2) (hO.ext hE2) (Nat.le_refl _) hg, by rw [HU.out]; exact hO4, Lib.hid fun j hj => by
          by_cases e : j = k
          · subst e; exact HY.out
          · exact hJ.out j (by omega)⟩
        case measure => simp [intOf]; omega
      · have HN := Lib.hid hn
        clear hn
        go_wp2
        go_ret2
        exact GivesRM.no (HK.out k hlt HN.out) (HE1.out.trans (hE.trans hE2))
    · obtain rfl : k = (spl 59 l).length := by omega
      rw [HA.out] at hO
      obtain ⟨ar, cr, rfl, hM⟩ := hO.at
      have HM := Lib.hid (sIsMatrix_c ar cr (mtV l) wr hM)
      have he := HK2.out hJ.out
      cases hm : isMat (mtV l)
      · rw [hm] at he
        have HF := Lib.hid hm
        have HN := Lib.hid he
        clear hm he
        go_wp2_with fail
        refine (asB HF.out HM.out).mono ?_
        rintro e w2 ⟨rfl, hQ⟩
        go_wp2
        go_ret2
        exact GivesRM.no HN.out (HE1.out.trans (hE.qt hQ))
      · rw [hm] at he
        have HF := Lib.hid hm
        have HN := Lib.hid he
        clear hm he
        go_wp2_with fail
        refine (asB HF.out HM.out).mono ?_
        rintro e w2 ⟨rfl, hQ⟩
        go_wp2
        go_ret2
        exact GivesRM.yes HN.out rfl (HE1.out.trans (hE.qt hQ)) ((hO.mono hsz1).ext hQ.ext)
end Go.Proofs.YtkipbfjkcdccjaaDoor
