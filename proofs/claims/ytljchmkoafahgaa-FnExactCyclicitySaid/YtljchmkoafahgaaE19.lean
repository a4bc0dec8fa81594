/- Contracts of slices.DeleteFunc at lists of lists, and of the components of the critical arcs, the program's. Conditions: the forms of the matrices. -/
import Derived.Test.YtljchmkoafahgaaGG
import Derived.Test.YtljchmkoafahgaaRC
import Derived.Lib.SliceRun
namespace Go.Proofs.Ytljchmkoafahgaa
set_option linter.unusedVariables false
set_option linter.unusedSimpArgs false
open Go.RowKit

theorem idxF_c (F : FuncId) (caps : Array Value) (q : Nat → Bool) (g cap len : Nat) (A : Nat → Option Addr) (L C : Nat → Nat) (w : World) (hc : ∀ i, i < len → w.cell? ⟨g, i, none⟩ = some (.slice (A i) (L i) (C i))) (hl : len ≤ 1000)
    (hcf : ∀ args w, Sem.run Try.prog (callFunc F args) w = .ok (.enter F args) w)
    (hF : ∀ i, i < len → Calls Try.prog F (#[.slice (A i) (L i) (C i)] ++ caps) w fun e w' => e = .returned (.bool (q i)) ∧ w = w') :
    Calls Try.prog 145 #[.slice (some ⟨g, 0, none⟩) len cap, .func (.func F) #[] caps] w fun e w' => ((e = .returned (.int .i64 (-1)) ∧ ∀ j, j < len → q j = false) ∨ ∃ k : Nat, k < len ∧ e = .returned (.int .i64 k) ∧ q k = true ∧ ∀ j, j < k → q j = false) ∧ w = w' := by
  have HF := Lib.hid hF
  have HC := Lib.hid hc
  clear hF hc
  go_enter Try.func145, Try.ntmps145
  go_wp2
  go_loop [8] (fun i => ∃ k : Nat, k ≤ len ∧ i = .int .i64 k ∧ Hid (∀ j, j < k → q j = false)) (fun i => len - (intOf i).toNat)
  case atStart => exact ⟨0, Nat.zero_le _, rfl, fun j hj => absurd hj (Nat.not_lt_zero _)⟩
  case round =>
    obtain ⟨k, hk, rfl, hj⟩ := hrel
    by_cases hlt : k < len
    · have c1 := HC.out k hlt
      cases hv : q k
      · have Hv := Lib.hid hv
        clear hv
        go_wp2_with fail
        refine (asB Hv.out (HF.out k hlt)).mono ?_
        rintro e w' ⟨rfl, rfl⟩
        go_wp2
        go_round
        case rel => exact ⟨k + 1, by omega, by go_num, fun j h => by
          by_cases e : j = k
          · subst e; exact Hv.out
          · exact hj.out j (by omega)⟩
        case measure => simp [intOf]; omega
      · have Hv := Lib.hid hv
        clear hv
        go_wp2_with fail
        refine (asB Hv.out (HF.out k hlt)).mono ?_
        rintro e w' ⟨rfl, rfl⟩
        go_wp2
        go_ret
        exact ⟨.inr ⟨k, hlt, rfl, Hv.out, hj.out⟩, rfl⟩
    · go_wp2
      go_ret
      exact ⟨.inl ⟨rfl, fun i hi => hj.out i (by omega)⟩, rfl⟩
set_option maxHeartbeats 2000000 in
set_option maxRecDepth 100000 in
theorem delFunc_c (F : FuncId) (caps : Array Value) (p : List Int → Bool) (B g cap : Nat) (A : Nat → Option Addr) (C : Nat → Nat) (m : List (List Int)) (w : World) (hM : Mat w B g cap A C m) (hl : m.length ≤ 1000)
    (hcf : ∀ args w, Sem.run Try.prog (callFunc F args) w = .ok (.enter F args) w)
    (hF : ∀ i, i < m.length → ∀ w', Chg (fun b => b = g) w w' → Calls Try.prog F (#[.slice (A i) (row m i).length (C i)] ++ caps) w' fun e w'' => e = .returned (.bool (p (row m i))) ∧ w' = w'') :
    Calls Try.prog 130 #[.slice (some ⟨g, 0, none⟩) m.length cap, .func (.func F) #[] caps] w fun e w' => e = .returned (.slice (some ⟨g, 0, none⟩) (m.filter fun c => !p c).length cap) ∧ OwnM w' B (.slice (some ⟨g, 0, none⟩) (m.filter fun c => !p c).length cap) (m.filter fun c => !p c) ∧ Chg (fun b => b = g) w w' := by
  have hI := idxF_c F caps (fun t => p (row m t)) g cap m.length A (fun t => (row m t).length) C w (fun i hi => hM.cell hi) hl hcf (fun i hi => hF i hi w (Chg.refl _ _))
  have hle := hM.le
  have hmx := hM.mx
  have hK := keptI_rows p m m.length (Nat.le_refl _)
  rw [List.take_length] at hK
  have HM := Lib.hid (And.intro hM hK)
  have HF := Lib.hid hF
  have HI := Lib.hid hI
  have hv23 : ∀ w, (zeroValue 32).run Try.prog w = .ok (.slice none 0 0) w := Try.zeroValue32
  have HV := Lib.hid hv23
  clear hM hF hI hK hv23
  go_enter Try.func130, Try.ntmps130
  go_wp2_with fail
  refine HI.out.mono ?_
  rintro e w' ⟨h1, rfl⟩
  rcases h1 with ⟨rfl, hno⟩ | ⟨k0, hk0, rfl, hq, hlo⟩
  · have hm := (HM.out.1.hd (Nat.le_refl m.length))
    rw [← keptI_all hno] at hm
    have HR := Lib.hid (hm.mat HM.out.1)
    have e : (m.filter fun c => !p c).length = m.length := by
      rw [HM.out.2, List.length_map, keptI_all hno, List.length_range]
    have HE := Lib.hid e
    clear hno hm e
    go_wp2
    go_ret
    exact ⟨by rw [HE.out]; rfl, HR.out, Chg.refl _ _⟩
  · have hk1 : keptI (fun t => p (row m t)) (k0 + 1) = List.range k0 := by
      simp only [keptI]; rw [if_pos hq]; exact keptI_all hlo
    have hm := (HM.out.1.hd (Nat.le_of_lt hk0)).skip
    rw [← hk1] at hm
    have hkl : (keptI (fun t => p (row m t)) (k0 + 1)).length = k0 := by rw [hk1, List.length_range]
    have H0 := Lib.hid (And.intro hm hkl)
    have ek : ((k0 : Int) == -1) = false := by rw [beq_eq_false_iff_ne]; omega
    clear hq hlo hk1 hm hkl
    go_wp2
    go_loopw [5, 6] (fun i s wr => ∃ (j : Nat), k0 < j ∧ j ≤ m.length ∧ s = .int .i64 j ∧ i = .int .i64 ((keptI (fun t => p (row m t)) j).length : Nat) ∧ Hid (Hd w wr g cap m.length A (fun t => (row m t).length) C (keptI (fun t => p (row m t)) j) j ∧ (keptI (fun t => p (row m t)) j).length < j)) (fun _ s _ => m.length - (intOf s).toNat)
    case atStart => exact ⟨k0 + 1, by omega, by omega, by go_num, by rw [H0.out.2], H0.out.1, by rw [H0.out.2]; omega⟩
    case round =>
      obtain ⟨j, hj0, hjl, rfl, rfl, hH⟩ := hrel
      obtain ⟨i, hi⟩ : ∃ i, (keptI (fun t => p (row m t)) j).length = i := ⟨_, rfl⟩
      have hij : i < j := by rw [← hi]; exact hH.out.2
      rw [hi]
      have HI2 := Lib.hid hi
      clear hi
      by_cases hlt : j < m.length
      · have c1 := hH.out.1.hi (Nat.le_refl j) hlt
        cases hv : p (row m j)
        · have Hv := Lib.hid hv
          obtain ⟨u, hu⟩ := Option.isSome_iff_exists.1 (hH.out.1.there (t := i) (by omega))
          have hf := hH.out.1.frozen i
          have hcap2 := hH.out.1.keep hlt (by have := HI2.out; omega) hle
          have hke : keptI (fun t => p (row m t)) (j + 1) = keptI (fun t => p (row m t)) j ++ [j] := by
            simp only [keptI]; rw [if_neg (by rw [hv]; simp)]
          rw [HI2.out, ← hke] at hcap2
          have hkl : (keptI (fun t => p (row m t)) (j + 1)).length = i + 1 := by rw [hke, List.length_append, HI2.out]; rfl
          have HN := Lib.hid (And.intro hcap2 hkl)
          clear hv hcap2 hke hkl
          go_wp2_with fail
          refine (asB Hv.out (HF.out j hlt wr hH.out.1.chg)).mono ?_
          rintro e w' ⟨rfl, rfl⟩
          go_wp2
          go_roundw
          case rel => exact ⟨j + 1, by omega, by omega, by go_num, by rw [HN.out.2]; go_num, HN.out.1, by rw [HN.out.2]; omega⟩
          case measure => simp [intOf]; omega
        · have Hv := Lib.hid hv
          have hke : keptI (fun t => p (row m t)) (j + 1) = keptI (fun t => p (row m t)) j := by
            simp only [keptI]; rw [if_pos hv]
          have hsk := hH.out.1.skip
          rw [← hke] at hsk
          have HN := Lib.hid (And.intro hsk (show (keptI (fun t => p (row m t)) (j + 1)).length = i by rw [hke]; exact HI2.out))
          clear hv hke hsk
          go_wp2_with fail
          refine (asB Hv.out (HF.out j hlt wr hH.out.1.chg)).mono ?_
          rintro e w' ⟨rfl, rfl⟩
          go_wp2
          go_roundw
          case rel => exact ⟨j + 1, by omega, by omega, by go_num, by rw [HN.out.2], HN.out.1, by rw [HN.out.2]; omega⟩
          case measure => simp [intOf]; omega
      · obtain rfl : m.length = j := by omega
        have hcl : ∀ ty, (Builtin.clear_ #[22] ty #[.slice (some ⟨g, i, none⟩) (m.length - i) (cap - i)]).run Try.prog wr = .ok (.tuple #[]) (wr.setCells g i (List.replicate (m.length - i) (.slice none 0 0))) :=
          fun ty => Lib.run_clear_slice wr _ _ ty _ Try.underlying22 HV.out rfl rfl g i _ _ (by omega) (fun t ht => hH.out.1.there (by omega)) (fun t ht => hH.out.1.frozen _)
        have hfin := Hd.cells (j := m.length) (by have := HI2.out; omega) (List.replicate (m.length - i) (.slice none 0 0)) i wr (by rw [HI2.out]; exact Nat.le_refl _) hH.out.1
        have HFin := Lib.hid (And.intro hfin (hfin.mat HM.out.1))
        have hlen : (m.filter fun c => !p c).length = i := by rw [HM.out.2, List.length_map]; exact HI2.out
        have HLn := Lib.hid hlen
        clear hfin hlen
        go_wp2
        go_ret
        exact ⟨by rw [HLn.out]; rfl, HFin.out.2, HFin.out.1.chg⟩
theorem delF_c (n bb : Nat) (a ai : Option Addr) (ca ci : Nat) (Y : List (List Int)) (c : List Int) (i : Nat) (w : World) (h1 : w.cell? ⟨bb, 0, none⟩ = some (.slice a Y.length ca)) (hy : MatAt w a Y) (ry : Rect Y n n) (hc : IntsAt w ai c) (h0 : 0 < c.length) (hi : i < n) (hci : nth c 0 = (i : Int)) :
    Calls Try.prog 132 #[.slice ai c.length ci, .pointer (some ⟨bb, 0, none⟩)] w fun e w' => e = .returned (.bool (delB Y c)) ∧ w = w' := by
  have ly := ry.1
  have hcl := hc.len
  obtain ⟨p, o, rfl⟩ := hy.base (by omega)
  obtain ⟨q, r, rfl⟩ := hc.base h0
  have c0 := hc.cell h0
  rw [Nat.add_zero, hci] at c0
  obtain ⟨q2, r2, c2, f1, ff, -⟩ := hy.hdr ry hi (by omega)
  have f2 := ff i hi
  have hyl := hy.len
  rw [ly] at h1 hyl
  have hd : delB Y c = (c.length == 1 && ent Y i i == -1000000000000000) := by unfold delB; rw [hci]; rfl
  rw [hd]
  clear ff hy ry hc ly hci hd
  generalize ent Y i i = z at *
  by_cases hl : c.length = 1
  · have e1 : ((c.length : Int) == 1) = true := by rw [hl]; rfl
    rw [show (c.length == 1 && z == -1000000000000000) = (z == -1000000000000000) by simp [hl]]
    clear hl
    by_cases hz : z = -1000000000000000
    · have e2 : (z == -1000000000000000) = true := by simpa using hz
      rw [e2]
      rw [hz] at f2
      clear hz e2
      go_enter Try.func132, Try.ntmps132
      go_wp2_with fail
      go_ret
      exact ⟨rfl, rfl⟩
    · have e2 : (z == -1000000000000000) = false := by simpa using hz
      rw [e2]
      clear hz
      go_enter Try.func132, Try.ntmps132
      go_wp2_with fail
      go_ret
      exact ⟨rfl, rfl⟩
  · have e1 : ((c.length : Int) == 1) = false := by rw [beq_eq_false_iff_ne]; omega
    rw [show (c.length == 1 && z == -1000000000000000) = false by simp [hl]]
    clear hl
    go_enter Try.func132, Try.ntmps132
    go_wp2_with fail
    go_ret
    exact ⟨rfl, rfl⟩
theorem delF_enter (args : Array Value) (w : World) : Sem.run Try.prog (callFunc 132 args) w = .ok (.enter 132 args) w := by
  simp [callFunc, Try.func132, Try.f132]
theorem ownC_first {K : Nat → Nat → Bool} (h : K 0 0 = true) : ∀ j, 0 < j → nth (ownC K 0 j) 0 = 0 := by
  intro j
  induction j with
  | zero => intro h; omega
  | succ j ih =>
    intro _
    have e : ownC K 0 (j + 1) = if K 0 j && K j 0 then ownC K 0 j ++ [(j : Int)] else ownC K 0 j := rfl
    rw [e]
    by_cases hj : j = 0
    · subst hj; rw [h]; rfl
    · have h1 := ih (by omega)
      have h2 := ownC_pos h (show 0 < j by omega)
      split
      · rw [nth_app1 h2]; exact h1
      · exact h1
theorem comps_pos {K : Nat → Nat → Bool} {n : Nat} (hn : 0 < n) (h : K 0 0 = true) : 0 < (compsM K n n).length := by
  have hm : ownC K 0 n ∈ compsM K n n := compsM_mem.2 ⟨0, hn, rfl, ownC_first h n hn⟩
  exact List.length_pos_of_mem hm
set_option maxHeartbeats 1000000 in
theorem critComps_c (a : Option Addr) (ca : Nat) (Y : List (List Int)) (w : World) (hy : MatAt w a Y) (hs : isSq Y = true) :
    Calls Try.prog 83 #[.slice a Y.length ca] w (GivesM w ((compsM (wB Y Y.length) Y.length Y.length).filter fun c => !delB Y c)) := by
  obtain ⟨ry, hl1, hl2⟩ := isSq_rect hs
  obtain ⟨W, hW⟩ : ∃ W, w.alloc (.cells #[.slice a Y.length ca] 22) = W := ⟨_, rfl⟩
  have hE : Ext w W := by rw [← hW]; exact (Ext.refl w).alloc _
  have hb : W.cell? ⟨w.heap.size, 0, none⟩ = some (.slice a Y.length ca) := by rw [← hW]; simp
  have hbl : w.heap.size < W.heap.size := by rw [← hW]; simp
  have hcm := componentsOf_c a ca Y W (hy.mono hE) hs
  have hmem := fun c => compsM_mem (K := wB Y Y.length) (n := Y.length) (k := Y.length) (c := c)
  have hlen := compsM_len (wB Y Y.length) Y.length Y.length
  have hpos := comps_pos (K := wB Y Y.length) (n := Y.length) (by omega) (wB_refl Y _ 0)
  have hop : ∀ i, i < Y.length → 0 < (ownC (wB Y Y.length) i Y.length).length := fun i hi => ownC_pos (wB_refl Y _ i) hi
  have hHid := Lib.hid (And.intro hmem hop)
  have HC := Lib.hid hcm
  have HY := Lib.hid (And.intro hy ry)
  have hyl := hy.len
  clear hcm hmem hop hy ry hs
  generalize compsM (wB Y Y.length) Y.length Y.length = m at *
  go_enter Try.func83, Try.ntmps83
  go_wp2_with fail
  refine HC.out.mono ?_
  rintro e w1 ⟨a1, c1, rfl, hO, E1⟩
  obtain ⟨g, A, C, rfl, hM⟩ := hO.open hpos
  have hext : ∀ w', Chg (fun b => b = g) w1 w' → Ext W w' := fun w' h => E1.chg h fun i hi => by rw [hi]; exact hM.hB
  have hF : ∀ i, i < m.length → ∀ w', Chg (fun b => b = g) w1 w' → Calls Try.prog 132 (#[.slice (A i) (row m i).length (C i)] ++ #[.pointer (some ⟨w.heap.size, 0, none⟩)]) w' fun e w'' => e = .returned (.bool (delB Y (row m i))) ∧ w' = w'' := fun i hi w' h => by
    have hrm : row m i ∈ m := by rw [row_of_lt hi]; exact List.getElem_mem hi
    obtain ⟨i0, h1, h2, h3⟩ := (hHid.out.1 _).1 hrm
    have hin : IntsAt w' (A i) (row m i) := ((hM.own i hi).agree fun k hk => h.block k fun e => by
      subst e
      rcases (hM.own i hi).form with ⟨e1, _⟩ | ⟨r', cap', e1, _⟩
      · rw [e1] at hk; simp [Value.ownBlock] at hk
      · rw [e1] at hk
        simp only [Value.ownBlock, Option.some.injEq] at hk
        simp only [Value.slice.injEq] at e1
        exact hM.ne _ r' 0 hi e1.1 hk).ints
    exact delF_c Y.length w.heap.size a (A i) ca (C i) Y (row m i) i0 w' ((hext w' h).cell hb) ((HY.out.1.mono hE).mono (hext w' h)) HY.out.2 hin (by rw [h2]; exact hHid.out.2 i0 h1) h1 h3
  have hD := delFunc_c 132 #[.pointer (some ⟨w.heap.size, 0, none⟩)] (delB Y) W.heap.size g c1 A C m w1 hM (by omega) delF_enter hF
  have HD := Lib.hid hD
  have HX := Lib.hid hext
  clear hD hF hext hM hO hb
  go_wp2_with fail
  refine HD.out.mono ?_
  rintro e w2 ⟨rfl, h1, h2⟩
  have h3 := HX.out _ h2
  go_wp2
  go_ret
  exact ⟨_, _, rfl, h1.mono hE.size, hE.trans h3⟩
theorem implCC_c (a : Option Addr) (ca : Nat) (x : List (List Int)) (w : World) (hx : MatAt w a x) : Calls Try.prog 34 #[.slice a x.length ca] w (GivesM2 w (critCsV x).1 (critCsV x).2) := by
  have hC := criticalOf_c a ca x w hx
  cases hs : isSq x
  · have e : critCsV x = ([], 1) := by simp [critCsV, hs]
    rw [e]; clear e
    have e : critV x = ([], 1) := by simp [critV, hs]
    rw [e] at hC
    have HC := Lib.hid hC
    clear hC e hx
    go_enter Try.func34, Try.ntmps34
    go_wp2_with fail
    refine HC.out.mono ?_
    rintro e w1 ⟨a1, c1, rfl, hO, E1⟩
    go_wp2
    go_ret2
    exact ⟨none, 0, rfl, .inl ⟨rfl, rfl⟩, E1⟩
  cases hb : bestO x x.length with
  | none =>
    have e : critCsV x = ([], 4) := by simp [critCsV, hs, hb]
    rw [e]; clear e
    have e : critV x = ([], 4) := by simp [critV, hs, hb]
    rw [e] at hC
    have HC := Lib.hid hC
    clear hC e hx hb
    go_enter Try.func34, Try.ntmps34
    go_wp2_with fail
    refine HC.out.mono ?_
    rintro e w1 ⟨a1, c1, rfl, hO, E1⟩
    go_wp2
    go_ret2
    exact ⟨none, 0, rfl, .inl ⟨rfl, rfl⟩, E1⟩
  | some R =>
    have e : critCsV x = (critCs x R, 0) := by simp [critCsV, hs, hb]
    rw [e]; clear e
    have e : critV x = (critM x R, 0) := by simp [critV, hs, hb]
    rw [e] at hC
    have hsq := crit_sq hs (R := R)
    have hCC := fun (a : Option Addr) (ca : Nat) w' (h : MatAt w' a (critM x R)) => critComps_c a ca (critM x R) w' h hsq
    have hcs : ((compsM (wB (critM x R) (critM x R).length) (critM x R).length (critM x R).length).filter fun c => !delB (critM x R) c) = critCs x R := by rw [critM_len]; rfl
    rw [hcs] at hCC
    have HC := Lib.hid hC
    have HCC := Lib.hid hCC
    clear hC e hx hb hs hsq hCC hcs
    go_enter Try.func34, Try.ntmps34
    go_wp2_with fail
    refine HC.out.mono ?_
    rintro e w1 ⟨a1, c1, rfl, hO, E1⟩
    have hM := Lib.hid hO.mat
    clear hO
    go_wp2_with fail
    refine (HCC.out _ _ _ hM.out).mono ?_
    rintro e w2 ⟨a2, c2, rfl, hO2, E2⟩
    go_wp2
    go_ret2
    exact ⟨a2, c2, rfl, hO2.mono E1.size, E1.trans E2⟩
end Go.Proofs.Ytljchmkoafahgaa
