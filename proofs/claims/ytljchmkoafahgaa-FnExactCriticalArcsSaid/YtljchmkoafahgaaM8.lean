/- Contracts of the products of matrices and vectors. Conditions: the forms and bounds of the matrices. -/
import Derived.Test.YtljchmkoafahgaaM7
import Derived.Test.YtljchmkoafahgaaM5
import Derived.Test.YtljchmkoafahgaaM4
import Derived.Test.YtljchmkoafahgaaM3
import Derived.Test.YtljchmkoafahgaaP5
namespace Go.Proofs.Ytljchmkoafahgaa
set_option linter.unusedVariables false
open Go.RowKit

/-- the cells of a matrix that is read -/
theorem MatAt.base {w : World} {a : Option Addr} {x : List (List Int)} (h : MatAt w a x) (h0 : 0 < x.length) : ∃ p o, a = some ⟨p, o, none⟩ := by
  obtain ⟨p, o, e, _⟩ := h.at h0; exact ⟨p, o, e⟩
theorem IntsAt.base {w : World} {a : Option Addr} {x : List Int} (h : IntsAt w a x) (h0 : 0 < x.length) : ∃ p o, a = some ⟨p, o, none⟩ := by
  obtain ⟨p, o, e, _⟩ := h.at h0; exact ⟨p, o, e⟩
theorem IntsAt.cell {w : World} {p o : Nat} {x : List Int} (h : IntsAt w (some ⟨p, o, none⟩) x) {i : Nat} (hi : i < x.length) : w.cell? ⟨p, o + i, none⟩ = some (.int .i64 (nth x i)) := by
  obtain ⟨p', o', e, hc⟩ := h.at hi
  simp only [Option.some.injEq, Addr.mk.injEq, and_true] at e
  obtain ⟨rfl, rfl⟩ := e
  exact hc i hi
theorem MatAt.hdr {w : World} {p o : Nat} {x : List (List Int)} (h : MatAt w (some ⟨p, o, none⟩) x) {m n : Nat} (r : Rect x m n) {i : Nat} (hi : i < m) (h0 : 0 < n) :
    ∃ q o2 c, w.cell? ⟨p, o + i, none⟩ = some (.slice (some ⟨q, o2, none⟩) n c) ∧ (∀ j, j < n → w.cell? ⟨q, o2 + j, none⟩ = some (.int .i64 (ent x i j))) ∧ IntsAt w (some ⟨q, o2, none⟩) (row x i) := by
  obtain ⟨p', o', e, hc⟩ := h.at (i := i) (by rw [r.1]; exact hi)
  simp only [Option.some.injEq, Addr.mk.injEq, and_true] at e
  obtain ⟨rfl, rfl⟩ := e
  obtain ⟨ai, ci, c1, hx, _⟩ := hc i (by rw [r.1]; exact hi)
  rw [r.2 i hi] at c1
  obtain ⟨q, o2, rfl, hd⟩ := hx.at (i := 0) (by rw [r.2 i hi]; exact h0)
  exact ⟨q, o2, ci, c1, fun j hj => hd j (by rw [r.2 i hi]; exact hj), hx⟩

theorem times_cT {a b t : Int} (e : times a b = t) (w : World) (ha : -4000000000000000000 ≤ a ∧ a ≤ 4000000000000000000) (hb : -4000000000000000000 ≤ b ∧ b ≤ 4000000000000000000) :
    Calls Try.prog 141 #[.int .i64 a, .int .i64 b] w fun e w' => e = .returned (.int .i64 t) ∧ w = w' := by subst e; exact times_c a b w ha hb
theorem l01Times_cT {a b t : Int} (e : times a b = t) (w : World) (ha : -4000000000000000000 ≤ a ∧ a ≤ 4000000000000000000) (hb : -4000000000000000000 ≤ b ∧ b ≤ 4000000000000000000) :
    Calls Try.prog 113 #[.int .i64 a, .int .i64 b] w fun e w' => e = .returned (.int .i64 t) ∧ w = w' := by subst e; exact l01Times_c a b w ha hb

theorem FillD.redo {F I I' : Nat → Nat → Int} {m n : Nat} {M : List (List Int)} {D : Nat → Nat → Prop} (h : FillD F I m n D M) {i j : Nat} (hi : i < m) (hj : j < n) (hD : ¬ D i j)
    (hI : ∀ i' j', ¬ (i' = i ∧ j' = j) → I' i' j' = I i' j') : FillD F I' m n D (M.set i ((row M i).set j (I' i j))) := by
  obtain ⟨hr, h⟩ := h
  have hk : i < M.length := by rw [hr.1]; exact hi
  refine ⟨rect_set hr hi, fun i' j' hi' hj' => ?_⟩
  rw [ent_set hk (by rw [hr.2 i hi]; exact hj)]
  by_cases e : i' = i ∧ j' = j
  · obtain ⟨rfl, rfl⟩ := e
    rw [if_pos ⟨rfl, rfl⟩]
    exact ⟨fun hd => absurd hd hD, fun _ => rfl⟩
  · rw [if_neg e, hI i' j' e]; exact h i' j' hi' hj'
theorem FillD.swap {F I I' : Nat → Nat → Int} {m n : Nat} {M : List (List Int)} {D D' : Nat → Nat → Prop} (h : FillD F I m n D M) (hI : ∀ i j, i < m → j < n → ¬ D' i j → I' i j = I i j ∧ ¬ D i j)
    (hF : ∀ i j, i < m → j < n → D' i j → D i j ∨ (I i j = F i j ∧ ¬ D i j)) : FillD F I' m n D' M :=
  ⟨h.1, fun i j hi hj => ⟨fun hd => by
    rcases hF i j hi hj hd with e | ⟨e1, e2⟩
    · exact (h.2 i j hi hj).1 e
    · rw [(h.2 i j hi hj).2 e2, e1], fun hd => by rw [(hI i j hi hj hd).1]; exact (h.2 i j hi hj).2 (hI i j hi hj hd).2⟩⟩

theorem mulF_c (b1 b2 : Nat) (a b : Option Addr) (ca cb m K n : Nat) (x y : List (List Int)) (i j : Nat) (w : World) (h1 : w.cell? ⟨b1, 0, none⟩ = some (.slice a x.length ca)) (h2 : w.cell? ⟨b2, 0, none⟩ = some (.slice b y.length cb))
    (hx : MatAt w a x) (hy : MatAt w b y) (rx : Rect x m K) (ry : Rect y K n) (hi : i < m) (hj : j < n) (hK : 0 < K) (hbx : EBd 4000000000000000000 x) (hby : EBd 4000000000000000000 y) :
    Calls Try.prog 142 #[.int .i64 (i : Int), .int .i64 (j : Int), .pointer (some ⟨b1, 0, none⟩), .pointer (some ⟨b2, 0, none⟩)] w fun e w' => e = .returned (.int .i64 (mulE K x y i j)) ∧ Qt w w' := by
  obtain ⟨p, o, rfl⟩ := hx.base (by rw [rx.1]; omega)
  obtain ⟨q, o2, c, d1, d2, _⟩ := hx.hdr rx hi hK
  obtain ⟨p', o', rfl⟩ := hy.base (by rw [ry.1]; omega)
  have hxl := hx.len
  have hyl := hy.len
  rw [rx.1] at h1 hxl
  rw [ry.1] at h2 hyl
  have HY := Lib.hid (And.intro hy (And.intro ry (And.intro hbx hby)))
  have HD := Lib.hid d2
  clear hx hy rx ry d2 hbx hby
  go_enter Try.func142, Try.ntmps142
  go_wp2
  go_loopw [7, 15] (fun s i' wr => ∃ k : Nat, k ≤ K ∧ i' = .int .i64 k ∧ s = .int .i64 (mx k fun k => times (ent x i k) (ent y k j)) ∧ Qt w wr) (fun _ i _ => K - (intOf i).toNat)
  case atStart => exact ⟨0, Nat.zero_le _, rfl, rfl, Qt.refl _⟩
  case round =>
    obtain ⟨k, hk, rfl, rfl, hq⟩ := hrel
    by_cases hlt : k < K
    · obtain ⟨q2, o3, c2, e1, e2, _⟩ := HY.out.1.hdr HY.out.2.1 hlt (Nat.lt_of_le_of_lt (Nat.zero_le _) hj)
      have e2 := e2 j hj
      have d2 := HD.out k hlt
      obtain ⟨nq, rfl⟩ := hq
      replace e1 : (w.drewN nq).cell? _ = _ := e1
      replace e2 : (w.drewN nq).cell? _ = _ := e2
      replace d1 : (w.drewN nq).cell? _ = _ := d1
      replace d2 : (w.drewN nq).cell? _ = _ := d2
      replace h2 : (w.drewN nq).cell? _ = _ := h2
      have hbe := HY.out.2.2.1 i k
      have hbf := HY.out.2.2.2 k j
      have hstep : mx (k + 1) (fun k => times (ent x i k) (ent y k j)) = max (mx k fun k => times (ent x i k) (ent y k j)) (times (ent x i k) (ent y k j)) := rfl
      generalize hS : mx k (fun k => times (ent x i k) (ent y k j)) = S at hstep ⊢
      have hstep := Lib.hid hstep
      have hS := Lib.hid hS
      have hbe := Lib.hid hbe
      have hbf := Lib.hid hbf
      generalize hT : times (ent x i k) (ent y k j) = t at hstep
      have hT := Lib.hid hT
      by_cases hmx : S < t
      · have hm : max S t = t := by omega
        rw [hm] at hstep
        clear hm
        go_wp2_with fail
        refine (times_c (ent x i k) (ent y k j) _ hbe.out hbf.out).mono ?_
        rintro e w' ⟨rfl, rfl⟩
        rw [hT.out]
        go_wp2
        go_roundw
        case rel => exact ⟨k + 1, by omega, by go_num, by rw [hstep.out], ⟨nq, rfl⟩⟩
        case measure => simp [intOf]; omega
      · have hm : max S t = S := by omega
        rw [hm] at hstep
        clear hm
        go_wp2_with fail
        refine (times_c (ent x i k) (ent y k j) _ hbe.out hbf.out).mono ?_
        rintro e w' ⟨rfl, rfl⟩
        rw [hT.out]
        go_wp2
        go_roundw
        case rel => exact ⟨k + 1, by omega, by go_num, by rw [hstep.out], ⟨nq, rfl⟩⟩
        case measure => simp [intOf]; omega
    · obtain rfl : K = k := by omega
      go_wp2
      go_ret
      exact ⟨rfl, hq⟩
theorem mulF_enter (args : Array Value) (w : World) : Sem.run Try.prog (callFunc 142 args) w = .ok (.enter 142 args) w := by
  simp [callFunc, Try.func142, Try.f142]

set_option maxHeartbeats 400000 in
theorem multiply_c (a b : Option Addr) (ca cb m K n : Nat) (x y : List (List Int)) (w : World) (hx : MatAt w a x) (hy : MatAt w b y) (rx : Rect x m K) (ry : Rect y K n) (h0 : 0 < m) (hK : 0 < K) (hn0 : 0 < n) (hm : m ≤ 100) (hn : n ≤ 100)
    (hbx : EBd 4000000000000000000 x) (hby : EBd 4000000000000000000 y) :
    Calls Try.prog 102 #[.slice a x.length ca, .slice b y.length cb] w (GivesM w (mkMat m n (mulE K x y))) := by
  obtain ⟨W1, hW1⟩ : ∃ W, w.alloc (.cells #[.slice a x.length ca] 22) = W := ⟨_, rfl⟩
  have hE1 : Ext w W1 := by rw [← hW1]; exact (Ext.refl w).alloc _
  have hb1 : W1.cell? ⟨w.heap.size, 0, none⟩ = some (.slice a x.length ca) := by rw [← hW1]; simp
  obtain ⟨W, hW⟩ : ∃ W, W1.alloc (.cells #[.slice b y.length cb] 22) = W := ⟨_, rfl⟩
  have hE2 : Ext W1 W := by rw [← hW]; exact (Ext.refl W1).alloc _
  have hb2 : W.cell? ⟨W1.heap.size, 0, none⟩ = some (.slice b y.length cb) := by rw [← hW]; simp
  have hb1' := hE2.cell hb1
  have hE := hE1.trans hE2
  have hx' := hx.mono hE
  have hy' := hy.mono hE
  have H := Lib.hid (fun (W' : World) (hq : Ext W W') => matrixBy_c 142 #[.pointer (some ⟨w.heap.size, 0, none⟩), .pointer (some ⟨W1.heap.size, 0, none⟩)] m n (mulE K x y) W' hm hn mulF_enter
    (fun i j w' hi hj hE' => mulF_c w.heap.size W1.heap.size a b ca cb m K n x y i j w' (hE'.cell (hq.cell hb1')) (hE'.cell (hq.cell hb2)) ((hx'.mono hq).mono hE') ((hy'.mono hq).mono hE') rx ry hi hj hK hbx hby))
  obtain ⟨p, o, rfl⟩ := hy'.base (by rw [ry.1]; exact hK)
  obtain ⟨q, o2, c, c1, _, _⟩ := hy'.hdr ry hK hn0
  rw [Nat.add_zero] at c1
  rw [rx.1] at hb1' hW1 ⊢
  rw [ry.1] at hb2 hW ⊢
  have hz : (0 : Int) < (K : Int) := by omega
  clear hx hy hx' hy' hE1 hE2 hb1 rx ry hbx hby
  go_enter Try.func102, Try.ntmps102
  go_wp2_with fail
  refine region_qt_lit 7 (by kernel_rfl) (by kernel_rfl) ?_
  simp only [List.take_succ_cons, List.take_zero, List.drop_succ_cons, List.drop_zero]
  repeat (go_big_quiet_step ((fail)))
  refine wpQuiet_nil ?_
  intro _ hw'
  obtain ⟨nq, hw''⟩ := hw'
  subst hw''
  go_wp2_with fail
  refine (H.out _ ((Ext.refl W).drewN _)).mono ?_
  rintro e w' ⟨a', cap', rfl, h1, h2⟩
  go_wp2
  go_ret
  exact ⟨a', cap', rfl, h1.mono (by have := hE.size; simpa using this), hE.trans (((Ext.refl W).drewN _).trans h2)⟩

theorem checkedVector_c (a : Option Addr) (cap : Nat) (x : List Int) (w : World) (h : IntsAt w a x) :
    Calls Try.prog 99 #[.slice a x.length cap] w fun e w' => e = .returned (.tuple (if allV x then #[.slice a x.length cap, .int .i64 0] else #[.slice none 0 0, .int .i64 3])) ∧ w = w' := by
  cases hv : allV x
  · have HC := Lib.hid hv
    clear hv
    go_enter Try.func99, Try.ntmps99
    go_wp2_with fail
    refine (asB HC.out (areValues_c _ _ _ _ h)).mono ?_
    rintro e w' ⟨rfl, rfl⟩
    go_wp2
    go_ret2
    exact ⟨rfl, rfl⟩
  · have HC := Lib.hid hv
    clear hv
    go_enter Try.func99, Try.ntmps99
    go_wp2_with fail
    refine (asB HC.out (areValues_c _ _ _ _ h)).mono ?_
    rintro e w' ⟨rfl, rfl⟩
    go_wp2
    go_ret2
    exact ⟨rfl, rfl⟩

set_option maxHeartbeats 1000000 in
theorem timesVector_c (a b : Option Addr) (ca cb m n : Nat) (x : List (List Int)) (v : List Int) (w : World) (hx : MatAt w a x) (hv : IntsAt w b v) (rx : Rect x m n) (hl : v.length = n) (hn0 : 0 < n) (hm0 : 0 < m) (hm : m ≤ 1000)
    (hbx : EBd 4000000000000000000 x) (hbv : VBd 4000000000000000000 v) :
    Calls Try.prog 100 #[.slice a x.length ca, .slice b v.length cb] w (GivesI w (mkRow m (appF n x v))) := by
  obtain ⟨p, o, rfl⟩ := hx.base (by rw [rx.1]; exact hm0)
  obtain ⟨p2, o2, rfl⟩ := hv.base (by rw [hl]; exact hn0)
  have hvl := hv.len
  rw [rx.1, hl]
  rw [hl] at hvl
  have HX := Lib.hid (And.intro hx (And.intro rx (And.intro hv (And.intro hl (And.intro hbx hbv)))))
  clear hx rx hv hl hbx hbv
  have hmk := run_make_row' (P := Try.prog) 32 2 (.int .i64 0) 8 Try.underlying32 info_i rfl .i64 .i64 m (by omega) (by omega)
  have hE0 := (Ext.refl w).alloc (.cells (madeCells #[.int .i64 0] m) 2)
  have hO0 := OwnI.made w w.heap.size m (Nat.le_refl _) (by omega)
  rw [List.length_replicate] at hO0
  go_enter Try.func100, Try.ntmps100
  go_wp2
  clear hmk
  go_loopw [15] (fun i wr => ∃ (k : Nat) (L : List Int), k ≤ m ∧ i = .int .i64 k ∧ Ext w wr ∧ OwnI wr w.heap.size (.slice (some ⟨w.heap.size, 0, none⟩) m m) L ∧ Hid (L.length = m ∧ ∀ j, j < k → nth L j = appF n x v j)) (fun i _ => m - (intOf i).toNat)
  case atStart => exact ⟨0, _, Nat.zero_le _, rfl, hE0, hO0, by simp, fun j hj => absurd hj (Nat.not_lt_zero _)⟩
  case round =>
    obtain ⟨k, L, hk, rfl, hE, hO, hj⟩ := hrel
    clear hE0 hO0
    by_cases hlt : k < m
    · obtain ⟨q, o3, c, d1, d2, _⟩ := HX.out.1.hdr HX.out.2.1 hlt hn0
      replace d1 := hE.cell d1
      have D2 := Lib.hid d2
      obtain ⟨g, hg, hBg, hgs, hce, hfe⟩ := hO.open (by omega)
      simp only [Option.some.injEq, Addr.mk.injEq, and_true] at hg
      subst hg
      have c2 := hce k hlt
      have f2 := hfe k
      have hO2 := hO
      rw [← hj.out.1] at hO2
      replace hO2 := hO2.set k (-1000000000000000)
      rw [hj.out.1] at hO2
      have hE2 := hE.set (p := ⟨w.heap.size, k, none⟩) (Nat.le_refl _) (.int .i64 (-1000000000000000))
      obtain ⟨W2, hW2⟩ : ∃ W2, wr.setCell ⟨w.heap.size, k, none⟩ (.int .i64 (-1000000000000000)) = W2 := ⟨_, rfl⟩
      rw [hW2] at hO2 hE2
      have hj2 : Hid ((L.set k (-1000000000000000)).length = m ∧ (∀ j, j < k → nth (L.set k (-1000000000000000)) j = appF n x v j) ∧ nth (L.set k (-1000000000000000)) k = mx 0 fun t => times (ent x k t) (nth v t)) :=
        ⟨by simpa using hj.out.1, fun j h => by rw [nth_set _ _ _ _ (by rw [hj.out.1]; exact hlt), if_neg (by omega)]; exact hj.out.2 j h, by rw [nth_set _ _ _ _ (by rw [hj.out.1]; exact hlt), if_pos rfl]; rfl⟩
      generalize L.set k (-1000000000000000) = L2 at *
      clear hce hfe d2 hO hj
      go_wp2
      clear c2 f2 hW2
      go_loopw [25] (fun i wi => ∃ (t : Nat) (L3 : List Int), t ≤ n ∧ i = .int .i64 t ∧ Ext w wi ∧ OwnI wi w.heap.size (.slice (some ⟨w.heap.size, 0, none⟩) m m) L3 ∧ Hid (L3.length = m ∧ (∀ j, j < k → nth L3 j = appF n x v j) ∧ nth L3 k = mx t fun t => times (ent x k t) (nth v t))) (fun i _ => n - (intOf i).toNat)
      case atStart => exact ⟨0, L2, Nat.zero_le _, rfl, hE2, hO2, hj2⟩
      case round =>
        obtain ⟨t, L3, ht, rfl, hE3, hO3, hj3⟩ := hrel
        clear hE2 hO2
        by_cases hltn : t < n
        · obtain ⟨g, hg, hBg, hgs, hce, hfe⟩ := hO3.open (by omega)
          simp only [Option.some.injEq, Addr.mk.injEq, and_true] at hg
          subst hg
          have c2 := hce k hlt
          have f2 := hfe k
          have d2 := hE3.cell (D2.out t hltn)
          have e2 := hE3.cell (HX.out.2.2.1.cell (i := t) (by rw [HX.out.2.2.2.1]; exact hltn))
          have hstep : mx (t + 1) (fun t => times (ent x k t) (nth v t)) = max (nth L3 k) (times (ent x k t) (nth v t)) := by rw [hj3.out.2.2]; rfl
          have hbe := Lib.hid (HX.out.2.2.2.2.1 k t)
          have hbf := Lib.hid (HX.out.2.2.2.2.2 t)
          have hlen := hj3.out.1
          have hset : ∀ z : Int, OwnI (wr.setCell ⟨w.heap.size, k, none⟩ (.int .i64 z)) w.heap.size (.slice (some ⟨w.heap.size, 0, none⟩) m m) (L3.set k z) := fun z => by
            have h := hO3
            rw [← hlen] at h
            have := h.set k z
            rwa [hlen] at this
          have hset := Lib.hid hset
          generalize hT : times (ent x k t) (nth v t) = u at hstep
          have hT := Lib.hid hT
          have hstep := Lib.hid hstep
          have hlen := Lib.hid hlen
          have hnext : ∀ z, z = mx (t + 1) (fun t => times (ent x k t) (nth v t)) → Hid ((L3.set k z).length = m ∧ (∀ j, j < k → nth (L3.set k z) j = appF n x v j) ∧ nth (L3.set k z) k = mx (t + 1) fun t => times (ent x k t) (nth v t)) := fun z hz =>
            ⟨by simpa using hlen.out, fun j h => by rw [nth_set _ _ _ _ (by rw [hlen.out]; exact hlt), if_neg (by omega)]; exact hj3.out.2.1 j h, by rw [nth_set _ _ _ _ (by rw [hlen.out]; exact hlt), if_pos rfl]; exact hz⟩
          have hnext := Lib.hid hnext
          clear hce hfe hO3 hj3
          by_cases hmx : nth L3 k < u
          · have hm : max (nth L3 k) u = u := by omega
            rw [hm] at hstep
            clear hm
            go_wp2_with fail
            refine region_qt_lit 14 (by kernel_rfl) (by kernel_rfl) ?_
            simp only [List.take_succ_cons, List.take_zero, List.drop_succ_cons, List.drop_zero]
            repeat (go_big_quiet_step ((go_at_call 141; exact quiet_pure (times_cT hT.out _ hbe.out hbf.out))))
            refine wpQuiet_nil ?_
            intro _ hw'
            obtain ⟨nq, hw''⟩ := hw'
            subst hw''
            go_wp2
            go_roundw
            case rel =>
              refine ⟨t + 1, L3.set k u, by omega, by go_num, ?_, ?_, hnext.out u hstep.out.symm⟩
              · repeat (first | exact hE3 | refine Ext.drewN ?_ _ | refine Ext.drew ?_ | refine Ext.set ?_ (Nat.le_refl _) _)
              · exact (hset.out u).ext ⟨rfl, rfl, rfl, Nat.le_refl _, fun _ _ => rfl⟩
            case measure => simp [intOf]; omega
          · have hm : max (nth L3 k) u = nth L3 k := by omega
            rw [hm] at hstep
            clear hm
            go_wp2_with fail
            refine region_qt_lit 14 (by kernel_rfl) (by kernel_rfl) ?_
            simp only [List.take_succ_cons, List.take_zero, List.drop_succ_cons, List.drop_zero]
            repeat (go_big_quiet_step ((go_at_call 141; exact quiet_pure (times_cT hT.out _ hbe.out hbf.out))))
            refine wpQuiet_nil ?_
            intro _ hw'
            obtain ⟨nq, hw''⟩ := hw'
            subst hw''
            go_wp2
            go_roundw
            case rel =>
              refine ⟨t + 1, L3.set k (nth L3 k), by omega, by go_num, ?_, ?_, hnext.out (nth L3 k) hstep.out.symm⟩
              · repeat (first | exact hE3 | refine Ext.drewN ?_ _ | refine Ext.drew ?_ | refine Ext.set ?_ (Nat.le_refl _) _)
              · exact (hset.out (nth L3 k)).ext ⟨rfl, rfl, rfl, Nat.le_refl _, fun _ _ => rfl⟩
            case measure => simp [intOf]; omega
        · obtain rfl : n = t := by omega
          go_wp2
          go_roundw
          case rel => exact ⟨k + 1, L3, by omega, by go_num, hE3, hO3, hj3.out.1, fun j h => by
            by_cases e : j = k
            · subst e; exact hj3.out.2.2
            · exact hj3.out.2.1 j (by omega)⟩
          case measure => simp [intOf]; omega
    · obtain rfl : m = k := by omega
      go_wp2
      go_ret
      have e : L = mkRow m (appF n x v) := mkRow_eq hj.out.1 hj.out.2
      subst e
      refine ⟨some ⟨w.heap.size, 0, none⟩, m, ?_, by rw [mkRow_len]; exact hO, hE⟩
      rw [mkRow_len]; rfl
set_option maxHeartbeats 1000000 in
theorem l02Apply_c (a b : Option Addr) (ca cb m n : Nat) (x : List (List Int)) (v : List Int) (w : World) (hx : MatAt w a x) (hv : IntsAt w b v) (rx : Rect x m n) (hl : v.length = n) (hn0 : 0 < n) (hm0 : 0 < m) (hm : m ≤ 1000)
    (hbx : EBd 4000000000000000000 x) (hbv : VBd 4000000000000000000 v) :
    Calls Try.prog 101 #[.slice a x.length ca, .slice b v.length cb] w (GivesI w (mkRow m (appF n x v))) := by
  obtain ⟨p, o, rfl⟩ := hx.base (by rw [rx.1]; exact hm0)
  obtain ⟨p2, o2, rfl⟩ := hv.base (by rw [hl]; exact hn0)
  have hvl := hv.len
  rw [rx.1, hl]
  rw [hl] at hvl
  have HX := Lib.hid (And.intro hx (And.intro rx (And.intro hv (And.intro hl (And.intro hbx hbv)))))
  clear hx rx hv hl hbx hbv
  have hO0 := OwnI.empty w w.heap.size (Nat.le_refl _)
  have hE0 := (Ext.refl w).alloc (.cells #[] 2)
  go_enter Try.func101, Try.ntmps101
  go_wp2
  go_loopw [5, 6] (fun s i wr => ∃ k : Nat, k ≤ m ∧ i = .int .i64 k ∧ Ext w wr ∧ OwnI wr w.heap.size s (mkRow k (appF n x v))) (fun _ i _ => m - (intOf i).toNat)
  case atStart => exact ⟨0, Nat.zero_le _, rfl, hE0, hO0⟩
  case round =>
    obtain ⟨k, hk, rfl, hE, hO⟩ := hrel
    clear hO0 hE0
    obtain ⟨wo, rfl⟩ : ∃ wo, wo = wr := ⟨_, rfl⟩
    by_cases hlt : k < m
    · obtain ⟨q, o3, c, d1, d2, _⟩ := HX.out.1.hdr HX.out.2.1 hlt hn0
      replace d1 := hE.cell d1
      have D1 := Lib.hid d1
      have D2 := Lib.hid d2
      clear d1 d2
      go_wp2
      go_loopw [7, 8] (fun s i wr => ∃ t : Nat, t ≤ n ∧ i = .int .i64 t ∧ s = .int .i64 (mx t fun t => times (ent x k t) (nth v t)) ∧ Qt wo wr) (fun _ i _ => n - (intOf i).toNat)
      case atStart => exact ⟨0, Nat.zero_le _, rfl, rfl, Qt.refl _⟩
      case round =>
        obtain ⟨t, ht, rfl, rfl, hq⟩ := hrel
        by_cases hltn : t < n
        · have d1 := hq.ext.cell D1.out
          have d2 := hq.ext.cell (hE.cell (D2.out t hltn))
          have e2 := hq.ext.cell (hE.cell (HX.out.2.2.1.cell (i := t) (by rw [HX.out.2.2.2.1]; exact hltn)))
          have hbe := Lib.hid (HX.out.2.2.2.2.1 k t)
          have hbf := Lib.hid (HX.out.2.2.2.2.2 t)
          have hstep : mx (t + 1) (fun t => times (ent x k t) (nth v t)) = max (mx t fun t => times (ent x k t) (nth v t)) (times (ent x k t) (nth v t)) := rfl
          generalize hS : mx t (fun t => times (ent x k t) (nth v t)) = S at hstep ⊢
          have hS := Lib.hid hS
          generalize hT : times (ent x k t) (nth v t) = u at hstep
          have hT := Lib.hid hT
          have hstep := Lib.hid hstep
          by_cases hmx : S < u
          · have hm : max S u = u := by omega
            rw [hm] at hstep
            clear hm
            go_wp2_with fail
            go_big_quiet ((go_at_call 113; exact quiet_pure (l01Times_cT hT.out _ hbe.out hbf.out)))
            go_wp2
            go_roundw
            case rel => exact ⟨t + 1, by omega, by go_num, by rw [hstep.out], hq.drewN _⟩
            case measure => simp [intOf]; omega
          · have hm : max S u = S := by omega
            rw [hm] at hstep
            clear hm
            go_wp2_with fail
            go_big_quiet ((go_at_call 113; exact quiet_pure (l01Times_cT hT.out _ hbe.out hbf.out)))
            go_wp2
            go_roundw
            case rel => exact ⟨t + 1, by omega, by go_num, by rw [hstep.out], hq.drewN _⟩
            case measure => simp [intOf]; omega
        · obtain rfl : n = t := by omega
          have hl : (mkRow k (appF n x v)).length ≤ 1000000000 := by rw [mkRow_len]; omega
          have hE2 := hE.qt hq
          have hO2 := hO.ext hq.ext
          have e : mkRow (k + 1) (appF n x v) = mkRow k (appF n x v) ++ [mx n fun t => times (ent x k t) (nth v t)] := mkRow_succ _ _
          have e := Lib.hid e
          generalize mx n (fun t => times (ent x k t) (nth v t)) = S at *
          have hs := (hE2.alloc (.cells #[.int .i64 S] 2)).size
          go_wp2_with (at_builtin; refine app_i rfl _ _ rfl w.heap.size _ _ rfl (hO2.ext ((Ext.refl wr).alloc _)) ⟨wr.heap.size, 0, none⟩ 1 S rfl (cell_one _ _ _) hl hs ?_)
          intro v' w' hO4 hg
          go_wp2
          go_roundw
          case rel => exact ⟨k + 1, by omega, by go_num, grown_i hE2 hO2 (Nat.le_refl _) hg, by rw [e.out]; exact hO4⟩
          case measure => simp [intOf]; omega
    · obtain rfl : m = k := by omega
      go_wp2
      go_ret
      obtain ⟨a', cap', rfl, _⟩ := hO.at
      exact ⟨a', cap', rfl, hO, hE⟩

set_option maxHeartbeats 2000000 in
theorem l02Multiply_c (a b : Option Addr) (ca cb m K n : Nat) (x y : List (List Int)) (w : World) (hx : MatAt w a x) (hy : MatAt w b y) (rx : Rect x m K) (ry : Rect y K n) (h0 : 0 < m) (hK : 0 < K) (hn0 : 0 < n) (hm : m ≤ 100) (hn : n ≤ 100)
    (hbx : EBd 4000000000000000000 x) (hby : EBd 4000000000000000000 y) :
    Calls Try.prog 104 #[.slice a x.length ca, .slice b y.length cb] w (GivesM w (mkMat m n (mulE K x y))) := by
  obtain ⟨p, o, rfl⟩ := hx.base (by rw [rx.1]; exact h0)
  obtain ⟨p', o', rfl⟩ := hy.base (by rw [ry.1]; exact hK)
  obtain ⟨q0, oq, c0, z1, _, _⟩ := hy.hdr ry hK hn0
  rw [Nat.add_zero] at z1
  have hxl := hx.len
  have hyl := hy.len
  rw [rx.1] at hxl ⊢
  rw [ry.1] at hyl ⊢
  have hz : (0 : Int) < (K : Int) := by omega
  have HX := Lib.hid (And.intro hx (And.intro rx (And.intro hy (And.intro ry (And.intro hbx hby)))))
  have Z1 := Lib.hid z1
  clear hx rx hy ry hbx hby
  go_enter Try.func104, Try.ntmps104
  go_wp2_with fail
  refine (l02Bottom_c m n _ (by omega) (by omega)).mono ?_
  rintro e w1 ⟨a', cap, rfl, hO, hE⟩
  obtain ⟨g, A, C, rfl, hM⟩ := hO.open (by rw [mkMat_len]; exact h0)
  rw [mkMat_len]
  clear hO z1
  go_wp2
  go_loopw [6] (fun i wr => ∃ (k : Nat) (M : List (List Int)), k ≤ m ∧ i = .int .i64 k ∧ Ext w wr ∧ Mat wr w.heap.size g cap A C M ∧ Hid (FillD (mulE K x y) (fun _ _ => -1000000000000000) m n (fun i j => i < k) M)) (fun i _ => m - (intOf i).toNat)
  case atStart => exact ⟨0, _, Nat.zero_le _, rfl, hE, hM, FillD.start (rect_mk _ _ _) (fun i j hi hj => mkMat_ent hi hj) (fun i j _ _ => Nat.not_lt_zero _)⟩
  case round =>
    obtain ⟨k, M, hk, rfl, hE2, hM2, hF⟩ := hrel
    clear hE hM
    by_cases hlt : k < m
    · go_wp2
      go_loopw [7] (fun i wr => ∃ (t : Nat) (M : List (List Int)), t ≤ n ∧ i = .int .i64 t ∧ Ext w wr ∧ Mat wr w.heap.size g cap A C M ∧ Hid (FillD (mulE K x y) (fun _ _ => -1000000000000000) m n (fun i j => i < k ∨ (i = k ∧ j < t)) M)) (fun i _ => n - (intOf i).toNat)
      case atStart => exact ⟨0, M, Nat.zero_le _, rfl, hE2, hM2, hF.out.congr fun i j _ _ => by omega⟩
      case round =>
        obtain ⟨t, M3, ht, rfl, hE3, hM3, hF3⟩ := hrel
        clear hE2 hM2
        have z1 := hE3.cell Z1.out
        by_cases hltn : t < n
        · go_wp2
          clear z1
          go_loopw [8] (fun i wr => ∃ (s : Nat) (M : List (List Int)), s ≤ K ∧ i = .int .i64 s ∧ Ext w wr ∧ Mat wr w.heap.size g cap A C M ∧ Hid (FillD (mulE K x y) (fun i j => if i = k ∧ j = t then mx s (fun q => times (ent x k q) (ent y q t)) else -1000000000000000) m n (fun i j => i < k ∨ (i = k ∧ j < t)) M)) (fun i _ => K - (intOf i).toNat)
          case atStart => exact ⟨0, M3, Nat.zero_le _, rfl, hE3, hM3, hF3.out.swap (fun i j _ _ hd => ⟨by simp only [mx]; split <;> rfl, hd⟩) (fun i j _ _ hd => .inl hd)⟩
          case round =>
            obtain ⟨s, M4, hs, rfl, hE4, hM4, hF4⟩ := hrel
            clear hE3 hM3
            by_cases hlts : s < K
            · have hkM : k < M4.length := by rw [hF4.out.1.1]; exact hlt
              have hrk : (row M4 k).length = n := hF4.out.1.2 k hlt
              have c1 := hM4.cell hkM
              obtain ⟨r, hA, hBr, hrs, hce, hfe⟩ := hM4.addr hkM (by rw [hrk]; omega)
              have c2 := hce t (by rw [hrk]; exact hltn)
              have f2 := hfe t
              rw [hrk, hA] at c1
              have he : ent M4 k t = mx s (fun q => times (ent x k q) (ent y q t)) := by
                rw [hF4.out.todo hlt hltn (by omega), if_pos ⟨rfl, rfl⟩]
              rw [he] at c2
              obtain ⟨q, o3, c, d1, d2, _⟩ := HX.out.1.hdr HX.out.2.1 hlt hK
              replace d1 := hE4.cell d1
              replace d2 := hE4.cell (d2 s hlts)
              obtain ⟨q', o3', c', e1, e2, _⟩ := HX.out.2.2.1.hdr HX.out.2.2.2.1 hlts hn0
              replace e1 := hE4.cell e1
              replace e2 := hE4.cell (e2 t hltn)
              have hbe := Lib.hid (HX.out.2.2.2.2.1 k s)
              have hbf := Lib.hid (HX.out.2.2.2.2.2 s t)
              have hstep : mx (s + 1) (fun q => times (ent x k q) (ent y q t)) = max (mx s fun q => times (ent x k q) (ent y q t)) (times (ent x k s) (ent y s t)) := rfl
              have hset := fun z => hM4.set hkM hA t z
              have hset := Lib.hid hset
              have hnext : Hid (FillD (mulE K x y) (fun i j => if i = k ∧ j = t then mx (s + 1) (fun q => times (ent x k q) (ent y q t)) else -1000000000000000) m n (fun i j => i < k ∨ (i = k ∧ j < t)) (M4.set k ((row M4 k).set t (mx (s + 1) fun q => times (ent x k q) (ent y q t))))) := by
                have h := hF4.out.redo (I' := fun i j => if i = k ∧ j = t then mx (s + 1) (fun q => times (ent x k q) (ent y q t)) else -1000000000000000) hlt hltn (by omega) (fun i j hn => by simp only [if_neg hn])
                rw [if_pos ⟨rfl, rfl⟩] at h
                exact h
              generalize hS : mx s (fun q => times (ent x k q) (ent y q t)) = S at hstep c2
              have hS := Lib.hid hS
              generalize hT : times (ent x k s) (ent y s t) = u at hstep
              have hT := Lib.hid hT
              have hstep := Lib.hid hstep
              clear hce hfe hrk he hA hF4
              by_cases hmx : S < u
              · have hm : max S u = u := by omega
                rw [hm] at hstep
                clear hm
                go_wp2_with fail
                refine region_qt_lit 29 (by kernel_rfl) (by kernel_rfl) ?_
                simp only [List.take_succ_cons, List.take_zero, List.drop_succ_cons, List.drop_zero]
                repeat (go_big_quiet_step ((go_at_call 113; exact quiet_pure (l01Times_cT hT.out _ hbe.out hbf.out))))
                refine wpQuiet_nil ?_
                intro _ hw'
                obtain ⟨nq, hw''⟩ := hw'
                subst hw''
                go_wp2
                go_roundw
                case rel =>
                  refine ⟨s + 1, _, by omega, by go_num, ?_, ?_, hnext⟩
                  · repeat (first | exact hE4 | refine Ext.drewN ?_ _ | refine Ext.drew ?_ | refine Ext.set ?_ hBr _)
                  · rw [hstep.out]; exact (hset.out u).ext ⟨rfl, rfl, rfl, Nat.le_refl _, fun _ _ => rfl⟩
                case measure => simp [intOf]; omega
              · have hm : max S u = S := by omega
                rw [hm] at hstep
                clear hm
                go_wp2_with fail
                refine region_qt_lit 29 (by kernel_rfl) (by kernel_rfl) ?_
                simp only [List.take_succ_cons, List.take_zero, List.drop_succ_cons, List.drop_zero]
                repeat (go_big_quiet_step ((go_at_call 113; exact quiet_pure (l01Times_cT hT.out _ hbe.out hbf.out))))
                refine wpQuiet_nil ?_
                intro _ hw'
                obtain ⟨nq, hw''⟩ := hw'
                subst hw''
                go_wp2
                go_roundw
                case rel =>
                  refine ⟨s + 1, _, by omega, by go_num, ?_, ?_, hnext⟩
                  · repeat (first | exact hE4 | refine Ext.drewN ?_ _ | refine Ext.drew ?_ | refine Ext.set ?_ hBr _)
                  · rw [hstep.out]; exact (hset.out S).ext ⟨rfl, rfl, rfl, Nat.le_refl _, fun _ _ => rfl⟩
                case measure => simp [intOf]; omega
            · obtain rfl : K = s := by omega
              go_wp2
              go_roundw
              case rel => exact ⟨t + 1, M4, by omega, by go_num, hE4, hM4, hF4.out.swap (fun i j _ _ hd => ⟨by rw [if_neg (by omega)], by omega⟩) (fun i j _ _ hd => by
                by_cases e : i < k ∨ (i = k ∧ j < t)
                · exact .inl e
                · refine .inr ⟨?_, e⟩
                  obtain ⟨rfl, rfl⟩ : i = k ∧ j = t := by omega
                  rw [if_pos ⟨rfl, rfl⟩]; rfl)⟩
              case measure => simp [intOf]; omega
        · obtain rfl : n = t := by omega
          go_wp2
          go_roundw
          case rel => exact ⟨k + 1, M3, by omega, by go_num, hE3, hM3, hF3.out.congr fun i j _ _ => by omega⟩
          case measure => simp [intOf]; omega
    · obtain rfl : m = k := by omega
      have e := hF.out.done fun i j hi hj => hi
      go_wp2
      go_ret
      subst e
      exact hM2.give hE2 (mkMat_len _ _ _) rfl
end Go.Proofs.Ytljchmkoafahgaa
