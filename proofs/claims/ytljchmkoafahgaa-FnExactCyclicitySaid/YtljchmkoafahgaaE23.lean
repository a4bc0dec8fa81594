/- Contracts of l06Period, l06Cyclicity and Cyclicity of the reference. Conditions: the forms of the table. -/
import Derived.Test.YtljchmkoafahgaaE22
import Derived.Test.YtljchmkoafahgaaK13
namespace Go.Proofs.Ytljchmkoafahgaa
set_option linter.unusedVariables false
set_option linter.unusedSimpArgs false
open Go.RowKit

set_option maxHeartbeats 1000000 in
theorem l06Period_c (a b : Option Addr) (ca cb : Nat) (x : List (List Int)) (R : Int × Int) (k : Nat) (w : World) (hx : MatAt w a x) (hc : IntsAt w b (row (critCs x R) k)) (hs : isSq x = true) (hb : bestO x x.length = some R) (hk : k < (critCs x R).length) :
    Calls Try.prog 138 #[.slice a x.length ca, .slice b (row (critCs x R) k).length cb] w (GN w (fun g => g = cycP x R k ∧ 1 ≤ g ∧ g ≤ 10)) := by
  obtain ⟨rx, hl1, hl2⟩ := isSq_rect hs
  have hM := l06Matrix_c a ca x R w hx hs hb
  have hyl : (critM x R).length = x.length := critM_len x R
  have hyr := (isSq_rect (crit_sq (x := x) (R := R) hs)).1
  rw [hyl] at hyr
  have hS := critCs_strong hk
  have hnode : ∀ t, t < (row (critCs x R) k).length → ∃ u : Nat, nth (row (critCs x R) k) t = (u : Int) ∧ u < x.length := fun t ht => hS.nat _ (nth_mem ht)
  have hfin : ∀ g, PerUp (ent (critM x R)) x.length (row (critCs x R) k) (row (critCs x R) k).length g → g = cycP x R k ∧ 1 ≤ g ∧ g ≤ 10 := fun g h =>
    ⟨h.done.val.symm, per_pos hk h.done, h.1.2⟩
  have hL : ∀ (v : Nat), v < x.length → ∀ (g : Int), 0 ≤ g ∧ g ≤ 10 → ∀ (a' b : Option Addr) (ca' cb : Nat) (B : Nat) (w' : World), MatAt w' a' (critM x R) → OwnI w' B (.slice b 1 cb) [(v : Int)] → B ≤ w'.heap.size →
      Calls Try.prog 163 #[.slice a' x.length ca', .slice b 1 cb, .int .i64 g] w' (GN w' (LenPost (ent (critM x R)) x.length v [] g)) := fun v hv g hg a' b ca' cb B w' hm hO hB => by
    have := l06Lengths_c (critM x R) hyl hyr hl2 x.length v [] g B a' b ca' cb w' (by omega) (GOk.start hv) hg hm hO hB
    rwa [hyl] at this
  have hcl := hc.len
  have HM := Lib.hid hM
  have HL := Lib.hid hL
  have HC := Lib.hid hc
  have HF := Lib.hid (And.intro hnode hfin)
  have HYL := Lib.hid hyl
  have hst := Lib.hid (PerUp.start (A := ent (critM x R)) (n := x.length) (c := row (critCs x R) k))
  clear hx hs hb hM hL hc hnode hfin hyl hyr hS rx hk
  generalize critM x R = Y at *
  generalize row (critCs x R) k = c at *
  go_enter Try.func138, Try.ntmps138
  go_wp2_with fail
  refine HM.out.mono ?_
  rintro e w1 ⟨a1, c1, rfl, hO1, E1⟩
  rw [HYL.out]
  have hM1 := Lib.hid hO1.mat
  clear hO1 HM
  go_wp2
  go_loopw [6, 7] (fun s i wr => ∃ (t : Nat) (g : Int), t ≤ c.length ∧ i = .int .i64 t ∧ s = .int .i64 g ∧ 0 ≤ g ∧ g ≤ 10 ∧ Ext w1 wr ∧ Hid (PerUp (ent Y) x.length c t g)) (fun _ i _ => c.length - (intOf i).toNat)
  case atStart => exact ⟨0, 0, Nat.zero_le _, rfl, rfl, by omega, by omega, Ext.refl _, hst⟩
  case round =>
    obtain ⟨t, g, ht, rfl, rfl, hg1, hg2, hE, hrun⟩ := hrel
    clear hst
    by_cases hlt : t < c.length
    · obtain ⟨v, hv, hvl⟩ := HF.out.1 t hlt
      obtain ⟨p, o, rfl, hcc⟩ := HC.out.at hlt
      have d := (E1.trans hE).cell (hcc t hlt)
      rw [hv] at d
      have hEo := hE.alloc (.cells #[.int .i64 (v : Int)] 2)
      have hO := OwnI.lit1 wr (v : Int)
      have HO := Lib.hid (And.intro hO hEo)
      have HN := Lib.hid (fun g' (h : LenPost (ent Y) x.length v [] g g') => hrun.out.step hv h)
      clear hO hEo hcc hv hrun
      go_wp2_with fail
      refine (HL.out v hvl g ⟨hg1, hg2⟩ _ _ _ _ wr.heap.size _ (hM1.out.mono HO.out.2) HO.out.1 ((Ext.refl wr).alloc _).size).mono ?_
      rintro e w5 ⟨g5, rfl, hP5, hE5⟩
      have hEe := HO.out.2.trans hE5
      have hgb := hP5.1
      have hnext := Lib.hid (HN.out g5 hP5)
      clear hP5
      go_wp2
      go_roundw
      case rel => exact ⟨t + 1, g5, by omega, by go_num, rfl, hgb.1, hgb.2, hEe, hnext⟩
      case measure => simp [intOf]; omega
    · obtain rfl : c.length = t := by omega
      have HE := Lib.hid (HF.out.2 g hrun.out)
      go_wp2
      go_ret
      exact ⟨g, rfl, HE.out, E1.trans hE⟩
set_option maxHeartbeats 1000000 in
theorem l06Cyclicity_c (a : Option Addr) (ca : Nat) (x : List (List Int)) (R : Int × Int) (w : World) (hx : MatAt w a x) (hs : isSq x = true) (hb : bestO x x.length = some R) :
    Calls Try.prog 91 #[.slice a x.length ca] w fun e w' => e = .returned (.int .i64 (cycR (cycP x R) (critCs x R).length)) ∧ Ext w w' := by
  have hl2 := (isSq_rect hs).2.2
  have hC := l06Comps_c a ca x R w hx hs hb
  have hP := fun (k : Nat) (hk : k < (critCs x R).length) b cb w' (h : Ext w w') hc => l06Period_c a b ca cb x R k w' (hx.mono h) hc hs hb hk
  have hclen := critCs_len x R
  have hpos : ∀ t, t < (critCs x R).length → 0 < (row (critCs x R) t).length := fun t ht => (critCs_at ht).1
  have hxl := hx.len
  have HC := Lib.hid hC
  have HP := Lib.hid hP
  have HL := Lib.hid hpos
  clear hx hs hb hC hP hpos
  generalize critCs x R = m at *
  generalize cycP x R = pr at *
  go_enter Try.func91, Try.ntmps91
  go_wp2_with fail
  refine HC.out.mono ?_
  rintro e w1 ⟨a1, c1, rfl, hO1, E1⟩
  have hm1 := hO1.mat
  have hml := hm1.len
  have HM := Lib.hid hm1
  clear hO1 hm1 HC
  go_wp2
  go_loopw [4, 5] (fun s i wr => ∃ (k : Nat), k ≤ m.length ∧ i = .int .i64 k ∧ s = .int .i64 (cycR pr k) ∧ Ext w1 wr ∧ Hid (1 ≤ cycR pr k ∧ cycR pr k ≤ 10 ^ k)) (fun _ i _ => m.length - (intOf i).toNat)
  case atStart => exact ⟨0, Nat.zero_le _, rfl, rfl, Ext.refl _, (by show (1 : Int) ≤ 1 ∧ (1 : Int) ≤ 10 ^ 0; decide)⟩
  case round =>
    obtain ⟨k, hk, rfl, rfl, hE, hrun⟩ := hrel
    by_cases hlt : k < m.length
    · obtain ⟨p, o, rfl, hcc⟩ := HM.out.at hlt
      obtain ⟨ai, ci, d1, hx1, -⟩ := hcc k hlt
      have hE1 := E1.trans hE
      replace d1 := hE.cell d1
      have hPk := HP.out k hlt ai ci wr hE1 (hx1.mono hE)
      have hst : cycR pr (k + 1) = (cycR pr k).tdiv (gcdI (cycR pr k) (pr k)) * pr k := rfl
      have hp10 := pow_ten (k := k) (by omega)
      have hc1 := hrun.out.1
      have hc2 := hrun.out.2
      have HPk := Lib.hid hPk
      have Hst := Lib.hid hst
      have hcs := fun h => cyc_step (c := cycR pr k) (p := pr k) (k := k) hc1 hc2 h
      have hp11 := pow_ten (k := k + 1) (by omega)
      have Hcs := Lib.hid hcs
      have hc3 : cycR pr k ≤ 10000000000 := by omega
      clear hcc hx1 hPk hst hcs hrun
      generalize cycR pr k = c at *
      generalize hpd : pr k = p at *
      go_wp2_with fail
      refine HPk.out.mono ?_
      rintro e w5 ⟨g, rfl, ⟨hg, hg1, hg2⟩, hE5⟩
      subst hg
      obtain ⟨s1, s2, s3, s4⟩ := Hcs.out ⟨hg1, hg2⟩
      have hgl := gcdI_le (a := c) (b := g) (by omega)
      have hEe := hE.trans hE5
      have hnext : Hid (1 ≤ c.tdiv (gcdI c g) * g ∧ c.tdiv (gcdI c g) * g ≤ 10 ^ (k + 1)) := ⟨s3, s4⟩
      have hq1 : c.tdiv (gcdI c g) * g ≤ 10000000000 := by omega
      clear s4 hp10 hp11 hc2
      go_wp2_with fail
      refine (l01Divisor_c c g _ (by omega) (by omega)).mono ?_
      rintro e w6 ⟨rfl, hq⟩
      have hE6 := Ext.qt hEe hq
      generalize gcdI c g = gg at *
      have hg0 : ¬ gg = 0 := by omega
      have hw1 : IntKind.i64.wrap (c.tdiv gg) = c.tdiv gg := IntWalk.i64_in _ (by omega)
      generalize hqd : c.tdiv gg = qq at *
      have hw2 : IntKind.i64.wrap (qq * g) = qq * g := IntWalk.i64_in _ (by omega)
      go_wp2
      go_roundw
      case rel => exact ⟨k + 1, by omega, by go_num, by rw [Hst.out], hE6, by rw [Hst.out]; exact hnext.out⟩
      case measure => simp [intOf]; omega
    · obtain rfl : m.length = k := by omega
      go_wp2
      go_ret
      exact ⟨rfl, E1.trans hE⟩
theorem specCyclicity_c (a : Option Addr) (ca : Nat) (x : List (List Int)) (w : World) (hx : MatAt w a x) :
    Calls Try.prog 37 #[.slice a x.length ca] w fun e w' => e = .returned (.tuple #[.int .i64 (cyclV x).1, .int .i64 (cyclV x).2]) ∧ Ext w w' := by
  have HC0 := Lib.hid (fun w' (h : Ext w w') => l06Code_c a ca x w' (hx.mono h))
  cases hs : isSq x
  · have e : cyclV x = (0, 1) := by simp [cyclV, hs]
    rw [e]; clear e
    have e : codeV x = 1 := by simp [codeV, hs]
    rw [e] at HC0
    clear e hs hx
    go_enter Try.func37, Try.ntmps37
    go_wp2_with fail
    refine (HC0.out _ (Ext.refl _)).mono ?_
    rintro e w1 ⟨rfl, E1⟩
    go_wp2
    go_ret2
    exact ⟨rfl, E1⟩
  cases hb : bestO x x.length with
  | none =>
    have e : cyclV x = (0, 4) := by simp [cyclV, hs, hb]
    rw [e]; clear e
    have e : codeV x = 4 := by simp [codeV, hs, hb]
    rw [e] at HC0
    clear e hs hb hx
    go_enter Try.func37, Try.ntmps37
    go_wp2_with fail
    refine (HC0.out _ (Ext.refl _)).mono ?_
    rintro e w1 ⟨rfl, E1⟩
    go_wp2
    go_ret2
    exact ⟨rfl, E1⟩
  | some R =>
    have e : cyclV x = (cycR (cycP x R) (critCs x R).length, 0) := by simp [cyclV, hs, hb]
    rw [e]; clear e
    have e : codeV x = 0 := by simp [codeV, hs, hb]
    rw [e] at HC0
    clear e
    have HCy := Lib.hid (fun w' (h : Ext w w') => l06Cyclicity_c a ca x R w' (hx.mono h) hs hb)
    clear hs hb hx
    generalize cycR (cycP x R) (critCs x R).length = v at *
    go_enter Try.func37, Try.ntmps37
    go_wp2_with fail
    refine (HC0.out _ (Ext.refl _)).mono ?_
    rintro e w1 ⟨rfl, E1⟩
    go_wp2_with fail
    refine (HCy.out _ E1).mono ?_
    rintro e w2 ⟨rfl, E2⟩
    go_wp2
    go_ret2
    exact ⟨rfl, E1.trans E2⟩
end Go.Proofs.Ytljchmkoafahgaa
