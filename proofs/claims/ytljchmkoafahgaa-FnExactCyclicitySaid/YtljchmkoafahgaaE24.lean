/- Contracts of periodOf and Cyclicity of the program. Conditions: the forms of the table. -/
import Derived.Test.YtljchmkoafahgaaE23
import Derived.BigQuiet
namespace Go.Proofs.Ytljchmkoafahgaa
set_option linter.unusedVariables false
set_option linter.unusedSimpArgs false
open Go.RowKit

theorem OwnI.setx {w : World} {B g cap n : Nat} {xs : List Int} (h : OwnI w B (.slice (some ⟨g, 0, none⟩) n cap) xs) (j : Nat) (x : Int) :
    OwnI (w.setCell ⟨g, j, none⟩ (.int .i64 x)) B (.slice (some ⟨g, 0, none⟩) n cap) (xs.set j x) := by
  have hl := h.len
  subst hl
  exact h.set j x
theorem OwnI.far {w : World} {B g : Nat} {v : Value} {xs : List Int} (h : OwnI w B v xs) (hg : g < B) (j : Nat) (u : Value) : OwnI (w.setCell ⟨g, j, none⟩ u) B v xs :=
  h.chg (Chg.set w ⟨g, j, none⟩ u) fun k hk e => by have := h.base k hk; simp only at e; omega

set_option maxHeartbeats 4000000 in
set_option maxRecDepth 100000 in
theorem periodOf_c (a b : Option Addr) (ca cb : Nat) (Y : List (List Int)) (n : Nat) (c : List Int) (w : World) (hx : MatAt w a Y) (hc : IntsAt w b c) (hyl : Y.length = n) (rx : Rect Y n n) (hl1 : 1 ≤ n) (hl2 : n ≤ 10) (hS : Strong (ent Y) n c) (h0 : 0 < c.length) :
    Calls Try.prog 92 #[.slice a n ca, .slice b c.length cb] w (GN w (fun g => IsPer (ent Y) n c g)) := by
  have hcl := hc.len
  obtain ⟨p, o, rfl⟩ := hx.base (by omega)
  obtain ⟨pc, oc, rfl⟩ := hc.base h0
  obtain ⟨r, hr, hrn⟩ := hS.nat _ (nth_mem h0)
  have hnode : ∀ t, t < c.length → ∃ u : Nat, nth c t = (u : Int) ∧ u < n := fun t ht => hS.nat _ (nth_mem ht)
  have hrc : (r : Int) ∈ c := by rw [← hr]; exact nth_mem h0
  have hcc : ∀ t, t < c.length → w.cell? ⟨pc, oc + t, none⟩ = some (.int .i64 (nth c t)) := fun t ht => hc.cell ht
  have c0 := hcc 0 h0
  rw [hr, Nat.add_zero] at c0
  have hfin : ∀ L q g k, k = q.length → Bfs (ent Y) n c r L q g k 0 → IsPer (ent Y) n c g := fun L q g k e h => by subst e; exact h.done hS
  have hmk := run_make_row' (P := Try.prog) 32 2 (.int .i64 0) 8 Try.underlying32 info_i rfl .i64 .i64 n (by omega) (by omega)
  have hE0 := (Ext.refl w).alloc (.cells (madeCells #[.int .i64 0] n) 2)
  have hO0 := OwnI.made w w.heap.size n (Nat.le_refl _) (by omega)
  rw [List.length_replicate] at hO0
  have HX := Lib.hid (And.intro hx rx)
  have HC := Lib.hid hcc
  have HN := Lib.hid hnode
  have HF := Lib.hid hfin
  have HR := Lib.hid (And.intro hrc hrn)
  clear hx rx hc hcc hnode hfin hrc hr hS
  go_enter Try.func92, Try.ntmps92
  go_wp2
  clear hmk
  go_loopw [18] (fun i wr => ∃ (k : Nat) (L : List Int), k ≤ n ∧ i = .int .i64 k ∧ Ext w wr ∧ OwnI wr w.heap.size (.slice (some ⟨w.heap.size, 0, none⟩) n n) L ∧ Hid (L.length = n ∧ ∀ j, j < k → nth L j = -1)) (fun i _ => n - (intOf i).toNat)
  case atStart => exact ⟨0, _, Nat.zero_le _, rfl, hE0, hO0, by simp, fun j hj => absurd hj (Nat.not_lt_zero _)⟩
  case round =>
    obtain ⟨k, L, hk, rfl, hE, hO, hj⟩ := hrel
    clear hE0 hO0
    obtain ⟨g, hg, hBg, hgs, hce, hfe⟩ := hO.open (by omega)
    simp only [Option.some.injEq, Addr.mk.injEq, and_true] at hg
    subst hg
    by_cases hlt : k < n
    · have c2 := hce k hlt
      have f2 := hfe k
      have hset := hO.setx k (-1)
      have hEs := hE.set (p := ⟨w.heap.size, k, none⟩) (Nat.le_refl _) (.int .i64 (-1))
      have hnext : Hid ((L.set k (-1)).length = n ∧ ∀ j, j < k + 1 → nth (L.set k (-1)) j = -1) := ⟨by simpa using hj.out.1, fun j h => by
        rw [nth_set _ _ _ _ (by rw [hj.out.1]; exact hlt)]
        by_cases e : j = k
        · rw [if_pos e]
        · rw [if_neg e]; exact hj.out.2 j (by omega)⟩
      clear hce hfe hj
      go_wp2
      go_roundw
      case rel => exact ⟨k + 1, _, by omega, by go_num, hEs, hset, hnext⟩
      case measure => simp [intOf]; omega
    · obtain rfl : n = k := by omega
      have c2 := hce r HR.out.2
      have f2 := hfe r
      have hset := hO.setx r 0
      have hEs := hE.set (p := ⟨w.heap.size, r, none⟩) (Nat.le_refl _) (.int .i64 0)
      have hst : Hid (Bfs (ent Y) n c r (L.set r 0) [r] 0 0 0) := Bfs.start HR.out.1 HR.out.2 (by simpa using hj.out.1) fun u hu => by
        rw [nth_set _ _ _ _ (by rw [hj.out.1]; exact HR.out.2)]
        by_cases e : u = r
        · rw [if_pos e, if_pos e]
        · rw [if_neg e, if_neg e]; exact hj.out.2 u hu
      have hrn := HR.out.2
      have c1 := hEs.cell c0
      replace c0 := hE.cell c0
      obtain ⟨W1, hW1⟩ : ∃ W1, wr.setCell ⟨w.heap.size, r, none⟩ (.int .i64 0) = W1 := ⟨_, rfl⟩
      rw [hW1] at hset hEs c1
      have hs1 := hEs.size
      have hgs1 : w.heap.size < W1.heap.size := by rw [← hW1]; simpa using hgs
      have hO1 := OwnI.lit1 W1 (r : Int)
      have hO2 := hset.ext ((Ext.refl W1).alloc (.cells #[.int .i64 (r : Int)] 2))
      have hE2 := hEs.alloc (.cells #[.int .i64 (r : Int)] 2)
      replace hO1 := hO1.mono (B' := w.heap.size + 1) (by omega)
      generalize L.set r 0 = L1 at *
      clear hce hfe hj hO hE hset hEs
      go_wp2
      clear c0 c1 c2 f2 hW1
      go_loopw [7, 8, 9] (fun v s i wr => ∃ (k : Nat) (L : List Int) (q : List Nat) (g : Int), k ≤ q.length ∧ q.length ≤ 10 ∧ i = .int .i64 k ∧ s = .int .i64 g ∧ Ext w wr ∧ OwnI wr w.heap.size (.slice (some ⟨w.heap.size, 0, none⟩) n n) L ∧ OwnI wr (w.heap.size + 1) v (castL q) ∧ Hid (Bfs (ent Y) n c r L q g k 0)) (fun _ _ i _ => 10 - (intOf i).toNat)
      case atStart => exact ⟨0, L1, [r], 0, by simp, by simp, rfl, rfl, hE2, hO2, hO1, hst⟩
      case round =>
        obtain ⟨k, L, q, g, hk, hq10, rfl, rfl, hE, hO, hQ, hB⟩ := hrel
        clear hst hO1 hO2 hE2
        have hql : (castL q).length = q.length := by simp [castL]
        by_cases hlt : k < q.length
        · obtain ⟨az, cz, rfl, hqi⟩ := hQ.at
          obtain ⟨gq, hgq, hBq, hgqs, hceq, -⟩ := hQ.open (by omega)
          subst hgq
          have cq := hceq k (by omega)
          rw [castL_nth hlt] at cq
          have hf : q[k]? = some q[k] := List.getElem?_eq_getElem hlt
          have hfq : q[k] ∈ q := List.getElem_mem hlt
          have hfn : q[k] < n := hB.out.lo _ hfq
          obtain ⟨f, hfd⟩ : ∃ f, q[k] = f := ⟨_, rfl⟩
          rw [hfd] at cq hf hfq hfn
          have HFq := Lib.hid (And.intro hf hfq)
          have HB : Hid (q[k]? = some f ∧ Bfs (ent Y) n c r L q g k 0) := ⟨hf, hB.out⟩
          rw [hql]
          rw [hql] at hQ
          clear hB hceq hf hfq hfd hqi
          go_wp2
          clear cq
          go_loopw [7, 8, 46] (fun v s i wr => ∃ (j : Nat) (L : List Int) (q : List Nat) (g : Int), j ≤ c.length ∧ k < q.length ∧ q.length ≤ 10 ∧ i = .int .i64 j ∧ s = .int .i64 g ∧ Ext w wr ∧ OwnI wr w.heap.size (.slice (some ⟨w.heap.size, 0, none⟩) n n) L ∧ OwnI wr (w.heap.size + 1) v (castL q) ∧ Hid (q[k]? = some f ∧ Bfs (ent Y) n c r L q g k j)) (fun _ _ i _ => c.length - (intOf i).toNat)
          case atStart => exact ⟨0, L, q, g, Nat.zero_le _, hlt, hq10, rfl, rfl, hE, hO, hQ, HB⟩
          case round =>
            obtain ⟨j, L2, q2, g2, hj, hk2, hq2, rfl, rfl, hE2, hO2, hQ2, hB2⟩ := hrel
            clear hE hO hQ HB
            have hql2 : (castL q2).length = q2.length := by simp [castL]
            by_cases hltj : j < c.length
            · obtain ⟨t, ht, htn⟩ := HN.out j hltj
              have d0 := hE2.cell (HC.out j hltj)
              rw [ht] at d0
              obtain ⟨q1, o1, c1, d1, dd, -⟩ := HX.out.1.hdr HX.out.2 htn (by omega)
              have d2 := hE2.cell (dd f hfn)
              replace d1 := hE2.cell d1
              obtain ⟨gl, hgl, -, hgls, hce, hfe⟩ := hO2.open (by omega)
              simp only [Option.some.injEq, Addr.mk.injEq, and_true] at hgl
              subst hgl
              have l1 := hce t htn
              have l2 := hce f hfn
              have lf := hfe t
              clear dd hce hfe
              by_cases hne : ent Y t f = -1000000000000000
              · have hnext : Hid (q2[k]? = some f ∧ Bfs (ent Y) n c r L2 q2 g2 k (j + 1)) := ⟨hB2.out.1, hB2.out.2.skip hltj hB2.out.1 ht hne⟩
                rw [hne] at d2
                clear hB2 hne
                go_wp2
                go_roundw
                case rel => exact ⟨j + 1, L2, q2, g2, by omega, hk2, hq2, by go_num, rfl, hE2, hO2, hQ2, hnext⟩
                case measure => simp [intOf]; omega
              have hbe : (ent Y t f == -1000000000000000) = false := by rw [beq_eq_false_iff_ne]; exact hne
              have hfl := hB2.out.2.lv f (List.mem_of_getElem? hB2.out.1)
              have hfl1 := hfl.1
              have hfl2 := hfl.2.1
              by_cases hneg : nth L2 t < 0
              · have hnx := hB2.out.2.reach hk2 hltj hB2.out.1 ht htn hne hneg
                have hq3 := hnx.qlen
                have hnext : Hid ((q2 ++ [t])[k]? = some f ∧ Bfs (ent Y) n c r (L2.set t (nth L2 f + 1)) (q2 ++ [t]) g2 k (j + 1)) := ⟨by rw [List.getElem?_append_left hk2]; exact hB2.out.1, hnx⟩
                have hw1 : IntKind.i64.wrap (nth L2 f + 1) = nth L2 f + 1 := IntWalk.i64_in _ (by omega)
                have hset := hO2.setx t (nth L2 f + 1)
                have hEs := hE2.set (p := ⟨w.heap.size, t, none⟩) (Nat.le_refl _) (.int .i64 (nth L2 f + 1))
                have hQs := hQ2.far (Nat.lt_succ_self w.heap.size) t (.int .i64 (nth L2 f + 1))
                have hsz := hEs.size
                have hcast : castL (q2 ++ [t]) = castL q2 ++ [(t : Int)] := by simp [castL]
                have hln : (castL q2).length ≤ 1000000000 := by omega
                rw [List.length_append, List.length_singleton] at hq3
                clear hfl hnx hB2
                generalize L2.set t (nth L2 f + 1) = L3 at *
                generalize nth L2 f = z at *
                generalize nth L2 t = z2 at *
                generalize ent Y t f = z3 at *
                have hgz : w.heap.size < (wr.setCell ⟨w.heap.size, t, none⟩ (.int .i64 (z + 1))).heap.size := by simpa using hgls
                obtain ⟨W3, hW3⟩ : ∃ W3, wr.setCell ⟨w.heap.size, t, none⟩ (.int .i64 (z + 1)) = W3 := ⟨_, rfl⟩
                rw [hW3] at hset hEs hQs hsz hgz
                have hE3 := hEs.alloc (.cells #[.int .i64 (t : Int)] 2)
                have hQ3 := hQs.ext ((Ext.refl W3).alloc (.cells #[.int .i64 (t : Int)] 2))
                have hO3 := hset.ext ((Ext.refl W3).alloc (.cells #[.int .i64 (t : Int)] 2))
                have hs3 := hE3.size
                obtain ⟨W4, hW4⟩ : ∃ W4, W3.alloc (.cells #[.int .i64 (t : Int)] 2) = W4 := ⟨_, rfl⟩
                have hcell4 : W4.cell? ⟨W3.heap.size, 0, none⟩ = some (.int .i64 (t : Int)) := by rw [← hW4]; exact cell_one _ _ _
                have hs4 : w.heap.size + 1 ≤ W4.heap.size := by rw [← hW4]; simp; omega
                rw [hW4] at hE3 hQ3 hO3 hs3
                clear hset hEs hQs
                go_wp2_with (at_builtin; refine app_i rfl _ _ rfl (w.heap.size + 1) _ _ rfl hQ3 ⟨W3.heap.size, 0, none⟩ 1 (t : Int) rfl hcell4 hln hs4 ?_)
                intro v' w' hO4 hg
                have hEg := app_ext hE3 hQ3 (Nat.le_succ _) hg
                have hOg : OwnI w' w.heap.size (.slice (some ⟨w.heap.size, 0, none⟩) n n) L3 := hO3.agree fun k hk => hg.block k (hO3.lt hk).2 fun e => by
                  have h1 := hQ3.base k e.symm
                  have h2 : w.heap.size = k := by simpa [Value.ownBlock] using hk
                  omega
                rw [← hcast] at hO4
                go_wp2
                go_roundw
                case rel => exact ⟨j + 1, L3, q2 ++ [t], g2, by omega, by rw [List.length_append]; omega, by rw [List.length_append, List.length_singleton]; omega, by go_num, rfl, hEg, hOg, hO4, hnext⟩
                case measure => simp [intOf]; omega
              · have hnx := hB2.out.2.meet (by omega) hltj hB2.out.1 ht htn hne hneg
                have hgb := hnx.gb
                have hgb2 := hB2.out.2.gb
                have hnext : Hid (q2[k]? = some f ∧ Bfs (ent Y) n c r L2 q2 (gcdI (absI (nth L2 f + 1 - nth L2 t)) g2) k (j + 1)) := ⟨hB2.out.1, hnx⟩
                have hlt2 : nth L2 t < q2.length := by
                  have htq : t ∈ q2 := Classical.byContradiction fun hm => by have := hB2.out.2.un t htn hm; omega
                  exact (hB2.out.2.lv t htq).2.1
                have hw1 : IntKind.i64.wrap (nth L2 f + 1) = nth L2 f + 1 := IntWalk.i64_in _ (by omega)
                have hw2 : IntKind.i64.wrap (nth L2 f + 1 - nth L2 t) = nth L2 f + 1 - nth L2 t := IntWalk.i64_in _ (by omega)
                have hab : 0 ≤ absI (nth L2 f + 1 - nth L2 t) ∧ absI (nth L2 f + 1 - nth L2 t) ≤ 11 := by unfold absI; split <;> omega
                clear hfl hnx hB2
                generalize nth L2 f = z at *
                generalize nth L2 t = z2 at *
                generalize ent Y t f = z3 at *
                go_wp2_with fail
                go_big_quiet ((first | (go_at_call 123; exact quiet_pure (absOf_c _ _ (by omega))) | (go_at_call 93; exact quiet_call (divisorOf_c _ _ _ (by omega) (by omega)))))
                go_wp2
                go_roundw
                case rel => exact ⟨j + 1, L2, q2, _, by omega, hk2, hq2, by go_num, rfl, hE2.drewN _, hO2.ext ((Ext.refl wr).drewN _), hQ2.ext ((Ext.refl wr).drewN _), hnext⟩
                case measure => simp [intOf]; omega
            · obtain rfl : c.length = j := by omega
              have hnext : Hid (Bfs (ent Y) n c r L2 q2 g2 (k + 1) 0) := hB2.out.2.next
              clear hB2
              go_wp2
              go_roundw
              case rel => exact ⟨k + 1, L2, q2, g2, by omega, hq2, by go_num, rfl, hE2, hO2, hQ2, hnext⟩
              case measure => simp [intOf]; omega
        · obtain ⟨az, cz, rfl, hqi⟩ := hQ.at
          have HE := Lib.hid (HF.out L q g k (by omega) hB.out)
          rw [hql]
          clear hB
          go_wp2
          go_ret
          exact ⟨g, rfl, HE.out, hE⟩
set_option maxHeartbeats 1000000 in
theorem implCyclicity_c (a : Option Addr) (ca : Nat) (x : List (List Int)) (w : World) (hx : MatAt w a x) :
    Calls Try.prog 38 #[.slice a x.length ca] w fun e w' => e = .returned (.tuple #[.int .i64 (cyclV x).1, .int .i64 (cyclV x).2]) ∧ Ext w w' := by
  have hC := criticalOf_c a ca x w hx
  cases hs : isSq x
  · have e : cyclV x = (0, 1) := by simp [cyclV, hs]
    rw [e]; clear e
    have e : critV x = ([], 1) := by simp [critV, hs]
    rw [e] at hC
    have HC := Lib.hid hC
    clear hC e hx
    go_enter Try.func38, Try.ntmps38
    go_wp2_with fail
    refine HC.out.mono ?_
    rintro e w1 ⟨a1, c1, rfl, hO, E1⟩
    go_wp2
    go_ret2
    exact ⟨rfl, E1⟩
  cases hb : bestO x x.length with
  | none =>
    have e : cyclV x = (0, 4) := by simp [cyclV, hs, hb]
    rw [e]; clear e
    have e : critV x = ([], 4) := by simp [critV, hs, hb]
    rw [e] at hC
    have HC := Lib.hid hC
    clear hC e hx hb
    go_enter Try.func38, Try.ntmps38
    go_wp2_with fail
    refine HC.out.mono ?_
    rintro e w1 ⟨a1, c1, rfl, hO, E1⟩
    go_wp2
    go_ret2
    exact ⟨rfl, E1⟩
  | some R =>
    have e : cyclV x = (cycR (cycP x R) (critCs x R).length, 0) := by simp [cyclV, hs, hb]
    rw [e]; clear e
    have e : critV x = (critM x R, 0) := by simp [critV, hs, hb]
    rw [e] at hC
    obtain ⟨rx0, hl1, hl2⟩ := isSq_rect hs
    have hsq := crit_sq hs (R := R)
    have hyl : (critM x R).length = x.length := critM_len x R
    have hyr := (isSq_rect hsq).1
    rw [hyl] at hyr
    have hCC := fun (a : Option Addr) (ca : Nat) w' (h : MatAt w' a (critM x R)) => critComps_c a ca (critM x R) w' h hsq
    have hcs : ((compsM (wB (critM x R) (critM x R).length) (critM x R).length (critM x R).length).filter fun c => !delB (critM x R) c) = critCs x R := by rw [critM_len]; rfl
    rw [hcs] at hCC
    have hP := fun (k : Nat) (hk : k < (critCs x R).length) (a b : Option Addr) (ca cb : Nat) w' (hm : MatAt w' a (critM x R)) hc => (periodOf_c a b ca cb (critM x R) x.length (row (critCs x R) k) w' hm hc hyl hyr hl1 hl2 (critCs_strong hk) (critCs_at hk).1).mono
      fun e w'' (h : GN w' (fun g => IsPer (ent (critM x R)) x.length (row (critCs x R) k) g) e w'') => show GN w' (fun g => g = cycP x R k ∧ 1 ≤ g ∧ g ≤ 10) e w'' from by
        obtain ⟨g, h1, h2, h3⟩ := h
        exact ⟨g, h1, ⟨h2.val.symm, per_pos hk h2, h2.small hl2⟩, h3⟩
    rw [hyl] at hCC
    have hclen := critCs_len x R
    have HC := Lib.hid hC
    have HCC := Lib.hid hCC
    have HP := Lib.hid hP
    have HYL := Lib.hid hyl
    clear hC e hx hb hs hsq hCC hcs hP hyl hyr rx0
    generalize critM x R = Y at *
    generalize critCs x R = m at *
    generalize cycP x R = pr at *
    go_enter Try.func38, Try.ntmps38
    go_wp2_with fail
    refine HC.out.mono ?_
    rintro e w1 ⟨a1, c1, rfl, hO, E1⟩
    rw [HYL.out]
    have hMY := Lib.hid hO.mat
    clear hO
    go_wp2_with fail
    refine (HCC.out _ _ _ hMY.out).mono ?_
    rintro e w2 ⟨a2, c2, rfl, hO2, E2⟩
    have hm2 := hO2.mat
    have hml := hm2.len
    have HM := Lib.hid hm2
    have EE := E1.trans E2
    clear hO2 hm2 HC HCC
    go_wp2
    go_loopw [6, 21] (fun s i wr => ∃ (k : Nat), k ≤ m.length ∧ i = .int .i64 k ∧ s = .int .i64 (cycR pr k) ∧ Ext w2 wr ∧ Hid (1 ≤ cycR pr k ∧ cycR pr k ≤ 10 ^ k)) (fun _ i _ => m.length - (intOf i).toNat)
    case atStart => exact ⟨0, Nat.zero_le _, rfl, rfl, Ext.refl _, (by show (1 : Int) ≤ 1 ∧ (1 : Int) ≤ 10 ^ 0; decide)⟩
    case round =>
      obtain ⟨k, hk, rfl, rfl, hE, hrun⟩ := hrel
      by_cases hlt : k < m.length
      · obtain ⟨p, o, rfl, hcc⟩ := HM.out.at hlt
        obtain ⟨ai, ci, d1, hx1, -⟩ := hcc k hlt
        have hE1 := E2.trans hE
        replace d1 := hE.cell d1
        have hPk := HP.out k hlt a1 ai c1 ci wr (hMY.out.mono hE1) (hx1.mono hE)
        have hst : cycR pr (k + 1) = (cycR pr k).tdiv (gcdI (cycR pr k) (pr k)) * pr k := rfl
        have hp10 := pow_ten (k := k) (by omega)
        have hc1 := hrun.out.1
        have hc2 := hrun.out.2
        have HPk := Lib.hid hPk
        have Hst := Lib.hid hst
        have hcs := fun h => cyc_step (c := cycR pr k) (p := pr k) (k := k) hc1 hc2 h
        have hp11 := pow_ten (k := k + 1) (by omega)
        have Hcs := Lib.hid hcs
        have hc3 : cycR pr k ≤ 10000000000 := by omega
        clear hcc hx1 hPk hst hcs hrun
        generalize cycR pr k = c at *
        generalize hpd : pr k = p at *
        go_wp2_with fail
        refine HPk.out.mono ?_
        rintro e w5 ⟨g, rfl, ⟨hg, hg1, hg2⟩, hE5⟩
        subst hg
        obtain ⟨s1, s2, s3, s4⟩ := Hcs.out ⟨hg1, hg2⟩
        have hgl := gcdI_le (a := c) (b := g) (by omega)
        have hEe := hE.trans hE5
        have hnext : Hid (1 ≤ c.tdiv (gcdI c g) * g ∧ c.tdiv (gcdI c g) * g ≤ 10 ^ (k + 1)) := ⟨s3, s4⟩
        have hq1 : c.tdiv (gcdI c g) * g ≤ 10000000000 := by omega
        clear s4 hp10 hp11 hc2
        go_wp2_with fail
        refine (divisorOf_c c g _ (by omega) (by omega)).mono ?_
        rintro e w6 ⟨rfl, hq⟩
        have hE6 := Ext.qt hEe hq
        generalize gcdI c g = gg at *
        have hg0 : ¬ gg = 0 := by omega
        have hw1 : IntKind.i64.wrap (c.tdiv gg) = c.tdiv gg := IntWalk.i64_in _ (by omega)
        generalize hqd : c.tdiv gg = qq at *
        have hw2 : IntKind.i64.wrap (qq * g) = qq * g := IntWalk.i64_in _ (by omega)
        go_wp2
        go_roundw
        case rel => exact ⟨k + 1, by omega, by go_num, by rw [Hst.out], hE6, by rw [Hst.out]; exact hnext.out⟩
        case measure => simp [intOf]; omega
      · obtain rfl : m.length = k := by omega
        go_wp2
        go_ret2
        exact ⟨rfl, EE.trans hE⟩
end Go.Proofs.Ytljchmkoafahgaa
