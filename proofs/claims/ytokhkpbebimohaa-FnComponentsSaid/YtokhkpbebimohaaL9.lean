/- The walk of FnComponents. Condition: the code reads. -/
import Derived.Test.YtokhkpbebimohaaD7
import Derived.Test.YtokhkpbebimohaaE6
import Derived.Test.YtokhkpbebimohaaGG
namespace Go.Proofs.Ytokhkpbebimohaa
set_option linter.unusedVariables false
set_option linter.unusedSimpArgs false
open Go.RowKit

section
variable {K : Nat → Nat → Bool} {n : Nat}
def cnt (p : Nat → Bool) : Nat → Nat
  | 0 => 0
  | j + 1 => cnt p j + if p j then 1 else 0
theorem cnt_or {p q r : Nat → Bool} (h : ∀ u, (if r u then 1 else 0) = (if p u then 1 else 0) + (if q u then 1 else 0 : Nat)) (j : Nat) : cnt r j = cnt p j + cnt q j := by
  induction j with
  | zero => rfl
  | succ j ih => simp only [cnt]; rw [ih, h j]; omega
theorem cnt_all {p : Nat → Bool} {j : Nat} (h : ∀ u, u < j → p u = true) : cnt p j = j := by
  induction j with
  | zero => rfl
  | succ j ih => simp only [cnt]; rw [ih fun u hu => h u (by omega), h j (by omega)]; rfl
theorem cnt_none {p : Nat → Bool} {j : Nat} (h : ∀ u, u < j → p u = false) : cnt p j = 0 := by
  induction j with
  | zero => rfl
  | succ j ih => simp only [cnt]; rw [ih fun u hu => h u (by omega), h j (by omega)]; rfl
theorem cnt_congr {p q : Nat → Bool} {j : Nat} (h : ∀ u, u < j → p u = q u) : cnt p j = cnt q j := by
  induction j with
  | zero => rfl
  | succ j ih => simp only [cnt]; rw [ih fun u hu => h u (by omega), h j (by omega)]
theorem ownC_cnt (K : Nat → Nat → Bool) (i j : Nat) : (ownC K i j).length = cnt (fun u => K i u && K u i) j := by
  induction j with
  | zero => rfl
  | succ j ih =>
    simp only [ownC, cnt]
    by_cases h : (K i j && K j i) = true
    · rw [if_pos h, if_pos h, List.length_append, ih]; rfl
    · rw [if_neg h, if_neg h, ih]; rfl
structure Equi (K : Nat → Nat → Bool) (n : Nat) : Prop where
  r : ∀ u, u < n → K u u = true
  t : ∀ u v z, u < n → v < n → z < n → K u v = true → K v z = true → K u z = true
theorem own_congr (h : Equi K n) {u v : Nat} (hu : u < n) (hv : v < n) (h1 : K u v = true) (h2 : K v u = true) : ∀ j, j ≤ n → ownC K u j = ownC K v j := by
  intro j
  induction j with
  | zero => intro _; rfl
  | succ j ih =>
    intro hj
    have e : (K u j && K j u) = (K v j && K j v) := by
      rw [Bool.eq_iff_iff, Bool.and_eq_true, Bool.and_eq_true]
      constructor
      · rintro ⟨a, b⟩; exact ⟨h.t _ _ _ hv hu (by omega) h2 a, h.t _ _ _ (by omega) hu hv b h1⟩
      · rintro ⟨a, b⟩; exact ⟨h.t _ _ _ hu hv (by omega) h1 a, h.t _ _ _ (by omega) hv hu b h2⟩
    simp only [ownC]
    rw [e, ih (by omega)]
theorem first_mem (h : Equi K n) {u : Nat} (hu : u < n) : ∃ v, v < n ∧ nth (ownC K u n) 0 = (v : Int) ∧ K u v = true ∧ K v u = true := by
  have hp := ownC_pos (h.r u hu) hu
  have hm : nth (ownC K u n) 0 ∈ ownC K u n := by unfold nth; simp [hp]
  obtain ⟨v, h1, h2, h3⟩ := ownC_mem.1 hm
  rw [Bool.and_eq_true] at h3
  exact ⟨v, h1, h2, h3.1, h3.2⟩
theorem tot_comps (h : Equi K n) : ∀ k, k ≤ n → tot (compsM K n k) = cnt (fun u => decide (nth (ownC K u n) 0 < (k : Int))) n := by
  intro k
  induction k with
  | zero =>
    intro _
    rw [cnt_none fun u hu => by
      obtain ⟨v, _, e, _⟩ := first_mem h hu
      rw [e, decide_eq_false (by omega)]]
    rfl
  | succ k ih =>
    intro hk
    rw [cnt_or (p := fun u => decide (nth (ownC K u n) 0 < (k : Int))) (q := fun u => decide (nth (ownC K u n) 0 = (k : Int))) (fun u => by
      by_cases e1 : nth (ownC K u n) 0 < (k : Int)
      · simp only [decide_eq_true e1, decide_eq_true (show nth (ownC K u n) 0 < ((k + 1 : Nat) : Int) by omega), decide_eq_false (show ¬ nth (ownC K u n) 0 = (k : Int) by omega)]; rfl
      · by_cases e2 : nth (ownC K u n) 0 = (k : Int)
        · simp only [decide_eq_false e1, decide_eq_true (show nth (ownC K u n) 0 < ((k + 1 : Nat) : Int) by omega), decide_eq_true e2]; rfl
        · simp only [decide_eq_false e1, decide_eq_false (show ¬ nth (ownC K u n) 0 < ((k + 1 : Nat) : Int) by omega), decide_eq_false e2]; rfl), ← ih (by omega)]
    have key : ∀ u, u < n → nth (ownC K u n) 0 = (k : Int) → nth (ownC K k n) 0 = (k : Int) ∧ K k u = true ∧ K u k = true := fun u hu e => by
      obtain ⟨v, v1, v2, v3, v4⟩ := first_mem h hu
      obtain rfl : v = k := by omega
      rw [own_congr h v1 hu v4 v3 n (Nat.le_refl _)]
      exact ⟨e, v4, v3⟩
    simp only [compsM]
    by_cases e : nth (ownC K k n) 0 = (k : Int)
    · rw [if_pos e, tot_append]
      have e2 : tot [ownC K k n] = (ownC K k n).length := by simp [tot]
      rw [e2, ownC_cnt]
      congr 1
      refine cnt_congr fun u hu => ?_
      rw [Bool.eq_iff_iff, decide_eq_true_iff, Bool.and_eq_true]
      constructor
      · rintro ⟨a, b⟩
        rw [own_congr h hu (by omega) b a n (Nat.le_refl _)]; exact e
      · intro e3; exact (key u hu e3).2
    · rw [if_neg e]
      have : cnt (fun u => decide (nth (ownC K u n) 0 = (k : Int))) n = 0 := cnt_none fun u hu => decide_eq_false fun e3 => e (key u hu e3).1
      omega
theorem tot_all (h : Equi K n) : tot (compsM K n n) = n := by
  rw [tot_comps h n (Nat.le_refl _), cnt_all fun u hu => ?_]
  obtain ⟨v, v1, v2, _⟩ := first_mem h hu
  rw [v2]; exact decide_eq_true (by omega)
end
theorem wB_equi (a : List (List Int)) (n : Nat) : Equi (wB a n) n :=
  ⟨fun u _ => wB_refl a n u, fun u v z hu hv hz h1 h2 => (wB_iff hu hz).2 (((wB_iff hu hv).1 h1).trans ((wB_iff hv hz).1 h2) hv)⟩
/-- two nodes of a component reach one another -/
theorem comp_reach {a : List (List Int)} (hs : isSq a = true) {k i : Nat} (hk : k < (compV a).1.length) (hi : i < (row (compV a).1 k).length) : 0 < (row (compV a).1 k).length ∧
    canV a (nth (row (compV a).1 k) 0) (nth (row (compV a).1 k) i) = (true, 0) ∧ canV a (nth (row (compV a).1 k) i) (nth (row (compV a).1 k) 0) = (true, 0) := by
  have ec : (compV a).1 = compsM (wB a a.length) a.length a.length := by unfold compV; rw [hs]; rfl
  rw [ec] at hk hi ⊢
  have hm : row (compsM (wB a a.length) a.length a.length) k ∈ compsM (wB a a.length) a.length a.length := by rw [row_of_lt hk]; exact List.getElem_mem hk
  obtain ⟨u, hu, e, h0⟩ := compsM_mem.1 hm
  have hv : nth (row (compsM (wB a a.length) a.length a.length) k) i ∈ ownC (wB a a.length) u a.length := by rw [← e]; unfold nth; simp [hi]
  obtain ⟨v, hv1, hv2, hv3⟩ := ownC_mem.1 hv
  rw [Bool.and_eq_true] at hv3
  have e1 : inR (u : Int) 0 ((a.length : Int) - 1) = true := inR_iff.2 (by omega)
  have e2 : inR (v : Int) 0 ((a.length : Int) - 1) = true := inR_iff.2 (by omega)
  refine ⟨by omega, ?_, ?_⟩
  · rw [h0, hv2]; unfold canV; rw [hs, e1, e2]; simp [hv3.1]
  · rw [h0, hv2]; unfold canV; rw [hs, e1, e2]; simp [hv3.2]
theorem comp_tot {a : List (List Int)} (hs : isSq a = true) : tot (compV a).1 = a.length := by
  have ec : (compV a).1 = compsM (wB a a.length) a.length a.length := by unfold compV; rw [hs]; rfl
  rw [ec]; exact tot_all (wB_equi a a.length)
theorem comp_irr (a : List (List Int)) : (irrV a).2 = (compV a).2 ∧ (irrV a).1 = decide ((compV a).1.length = 1) ∧ ((compV a).2 = 0 → isSq a = true) := by
  unfold irrV compV
  cases h : isSq a <;> simp
theorem keep3 {W w' : World} {p q r : Addr} {x y z : Value} (c0 : W.cell? p = some x) (c1 : W.cell? q = some y) (c2 : W.cell? r = some z) (h : Ext W w') : Ext W w' ∧ w'.cell? p = some x ∧ w'.cell? q = some y ∧ w'.cell? r = some z := ⟨h, h.cell c0, h.cell c1, h.cell c2⟩

set_option maxRecDepth 100000 in
set_option maxHeartbeats 4000000 in
theorem FnComponents_walk (ca : Option Addr) (cc : Nat) (bs : List Int) (w : World) (h : CodeAt w ca bs) :
    Calls Try.prog 3 #[.slice ca bs.length cc] w fun e w' => e = .returned (.bool true) ∧ Ext w w' := by
  have HCode := Lib.hid h
  go_enter Try.func3, Try.ntmps3
  go_wp2_with fail
  refine (big_c _ _ _ _ (by have := h.1; omega)).mono ?_
  rintro e w' ⟨t, rfl, rfl⟩
  cases t
  · go_wp2_with fail
    refine (DrawComponentsOf_c _ _ _ _ h).mono ?_
    rintro e w1 ⟨aa, ka, a, rfl, hOa, -, -, hE1⟩
    have HA := Lib.hid hOa.mat
    have hla := hOa.mat.len
    clear hOa h
    have hi := implComp_c aa ka a w1 HA.out
    have hs := fun w' (q : Ext w1 w') => specComp_c aa ka a w' (HA.out.mono q)
    have hir := fun w' (q : Ext w1 w') => implIrr_c aa ka a w' (HA.out.mono q)
    obtain ⟨f1, f2, f3⟩ := comp_irr a
    have hcr := fun (hs : isSq a = true) k i hk hi => comp_reach hs (k := k) (i := i) hk hi
    have hct := fun (hs : isSq a = true) => comp_tot hs
    rw [f1, f2] at hir
    have hcan := fun (f t : Int) w' (q : Ext w1 w') => implCan_c aa ka a f t w' (HA.out.mono q)
    obtain ⟨V, hV⟩ : ∃ V, compV a = V := ⟨_, rfl⟩
    rw [hV] at hi hs hir f3 hcr hct
    clear f1 f2
    have hbit : (((V.1.length : Nat) : Int) == 1) = decide (V.1.length = 1) := by
      by_cases e : V.1.length = 1
      · rw [decide_eq_true e, e]; rfl
      · rw [decide_eq_false e, beq_eq_false_iff_ne]; omega
    generalize decide (V.1.length = 1) = bit at *
    have HI := Lib.hid hi
    have HS := Lib.hid hs
    have HIr := Lib.hid hir
    have HF := Lib.hid (And.intro f3 (And.intro hcr hct))
    have HCan := Lib.hid hcan
    clear hi hs hir f3 hcr hct hcan hV
    go_wp2_with fail
    refine HI.out.mono ?_
    rintro e w2 ⟨ax, kx, rfl, hOx, hE2⟩
    go_wp2_with fail
    refine (HS.out _ hE2).mono ?_
    rintro e w3 ⟨ay, ky, rfl, hOy, hE3⟩
    have HXm := Lib.hid (hOx.ext hE3).mat
    have HYm := Lib.hid hOy.mat
    have hEw := hE2.trans hE3
    have hlX := HXm.out.len
    clear hOx hOy
    go_wp2_with fail
    refine (DrawCanReach_c _ _ _ _ (HCode.out.mono (hE1.trans hEw))).mono ?_
    rintro e w4 ⟨ab, kb, b, f, t, rfl, hOb, -, -, hf, ht, hE4⟩
    have HB := Lib.hid hOb.mat
    clear hOb
    have hi := fun w' (q : Ext w4 w') => implCan_c ab kb b f t w' (HB.out.mono q)
    have hs := fun w' (q : Ext w4 w') => specCan_c ab kb b f t w' (HB.out.mono q)
    generalize canV b f t = Cn at *
    have HI2 := Lib.hid hi
    have HS2 := Lib.hid hs
    clear hi hs
    go_wp2_with fail
    refine (HI2.out _ (Ext.refl _)).mono ?_
    rintro e w5 ⟨rfl, hE5⟩
    go_wp2_with fail
    refine (HS2.out _ hE5).mono ?_
    rintro e w6 ⟨rfl, hE6⟩
    have hE46 := hE4.trans (hE5.trans hE6)
    have hE16 := hEw.trans hE46
    go_wp2_with fail
    refine (HIr.out _ hE16).mono ?_
    rintro e w7 ⟨rfl, hE7⟩
    have hE37 := hE46.trans hE7
    have hE17 := hE16.trans hE7
    go_wp2_with fail
    refine (asB (c := true) (by simp) (likeTables_c ax ay kx ky V.1 V.1 _ (HXm.out.mono hE37) (HYm.out.mono hE37))).mono ?_
    rintro e w8 ⟨rfl, hq8⟩
    have hE18 := hE17.qt hq8
    by_cases hc0 : V.2 = 0
    · have hc0' : (V.2 != 0) = false := by rw [hc0]; rfl
      have hsq := HF.out.1 hc0
      have HR := Lib.hid (And.intro (HF.out.2.1 hsq) (HF.out.2.2 hsq))
      have HX8 := Lib.hid ((HXm.out.mono hE37).qt hq8)
      clear hc0
      have hlx8 := HX8.out.len
      go_wp2
      go_loopw [17, 18] (fun s i wr => ∃ k : Nat, k ≤ V.1.length ∧ i = .int .i64 k ∧ s = .int .i64 (tot (V.1.take k) : Nat) ∧ Ext w8 wr) (fun _ i _ => V.1.length - (intOf i).toNat)
      case atStart => exact ⟨0, Nat.zero_le _, rfl, rfl, Ext.refl _⟩
      case round =>
        obtain ⟨k, hk, rfl, rfl, hE⟩ := hrel
        by_cases hlt : k < V.1.length
        · obtain ⟨px, ox, rfl, hcc⟩ := HX8.out.at hlt
          obtain ⟨ai, ci, d1, hx1, -⟩ := hcc k hlt
          have hst := tot_take_succ V.1 k hlt
          have hle := tot_take_le V.1 (k + 1)
          have htt := HR.out.2
          have hw1 : IntKind.i64.wrap (((tot (V.1.take k) : Nat) : Int) + ((row V.1 k).length : Nat)) = ((tot (V.1.take k) : Nat) : Int) + ((row V.1 k).length : Nat) := IntWalk.i64_in _ (by omega)
          have hst2 : ((tot (V.1.take (k + 1)) : Nat) : Int) = ((tot (V.1.take k) : Nat) : Int) + ((row V.1 k).length : Nat) := by omega
          have Hst := Lib.hid hst2
          have HXi := Lib.hid hx1
          have hxl := hx1.len
          have D1 := Lib.hid d1
          replace d1 := hE.cell d1
          clear hcc hx1 hst hst2 hle htt
          generalize tot (V.1.take k) = tk at *
          go_wp2
          clear d1
          go_loopw [19] (fun i wi => ∃ j : Nat, j ≤ (row V.1 k).length ∧ i = .int .i64 j ∧ Ext w8 wi) (fun i _ => (row V.1 k).length - (intOf i).toNat)
          case atStart => exact ⟨0, Nat.zero_le _, rfl, hE⟩
          case round =>
            obtain ⟨j, hj, rfl, hE2⟩ := hrel
            have d1 := hE2.cell D1.out
            by_cases hltj : j < (row V.1 k).length
            · obtain ⟨hp0, h1, h2⟩ := HR.out.1 k j hlt hltj
              obtain ⟨qx, rx, rfl⟩ := HXi.out.base (by omega)
              have d2 := hE2.cell (HXi.out.cell hp0)
              rw [Nat.add_zero] at d2
              have d3 := hE2.cell (HXi.out.cell hltj)
              have c1 := fun w' (q : Ext wr w') => HCan.out (nth (row V.1 k) 0) (nth (row V.1 k) j) w' ((hE18.trans hE2).trans q)
              have c2 := fun w' (q : Ext wr w') => HCan.out (nth (row V.1 k) j) (nth (row V.1 k) 0) w' ((hE18.trans hE2).trans q)
              rw [h1] at c1
              rw [h2] at c2
              have C1 := Lib.hid c1
              have C2 := Lib.hid c2
              clear c1 c2 h1 h2
              generalize nth (row V.1 k) 0 = z0 at *
              generalize nth (row V.1 k) j = zj at *
              go_upto_region 22 with fail
              go_region_held3 (fun w' => Ext wr w' ∧ w'.cell? ⟨px, ox + k, none⟩ = some (.slice (some ⟨qx, rx, none⟩) (row V.1 k).length ci) ∧ w'.cell? ⟨qx, rx, none⟩ = some (.int .i64 z0) ∧ w'.cell? ⟨qx, rx + j, none⟩ = some (.int .i64 zj))
                ((refine keep3 d1 d2 d3 ?_; (first | exact (Ext.refl _).drew | exact Ext.refl _ | exact Ext.trans (And.left ‹Ext wr _ ∧ _›) hE6)))
                ((go_at_call 14; refine (C1.out _ (And.left ‹Ext wr _ ∧ _›)).mono ?_; rintro e w6 ⟨rfl, hE6⟩))
              all_goals
                have hE66 : Ext wr w6 := And.left ‹Ext wr w6 ∧ _›
                go_upto_region 23 with fail
                have hE67 := hE66.drew
                go_region_held3 (fun w' => Ext wr w' ∧ w'.cell? ⟨px, ox + k, none⟩ = some (.slice (some ⟨qx, rx, none⟩) (row V.1 k).length ci) ∧ w'.cell? ⟨qx, rx, none⟩ = some (.int .i64 z0) ∧ w'.cell? ⟨qx, rx + j, none⟩ = some (.int .i64 zj))
                  ((refine keep3 d1 d2 d3 ?_; (first | exact hE67 | exact hE66 | exact Ext.trans (And.left ‹Ext wr _ ∧ _›) hE9)))
                  ((go_at_call 14; refine (C2.out _ (And.left ‹Ext wr _ ∧ _›)).mono ?_; rintro e w9 ⟨rfl, hE9⟩))
                all_goals
                  have hEe : Ext wr w9 := And.left ‹Ext wr w9 ∧ _›
                  clear d1 d2 d3
                  go_wp2
                  go_roundw
                  case rel => exact ⟨j + 1, by omega, by go_num, hE2.trans hEe⟩
                  case measure => simp [intOf]; omega
            · obtain rfl : (row V.1 k).length = j := by omega
              go_wp2
              go_roundw
              case rel => exact ⟨k + 1, by omega, by go_num, by rw [Hst.out], hE2⟩
              case measure => simp [intOf]; omega
        · obtain rfl : V.1.length = k := by omega
          have htt := HR.out.2
          rw [List.take_length, htt]
          go_wp2
          go_ret
          exact ⟨rfl, hE1.trans (hE18.trans hE)⟩
    · have hc0' : (V.2 != 0) = true := by simpa using hc0
      clear hc0
      go_wp2
      go_ret
      exact ⟨rfl, hE1.trans hE18⟩
  · go_wp2
    go_ret
    exact ⟨rfl, Ext.refl _⟩
end Go.Proofs.Ytokhkpbebimohaa
