/- Several texts in one: E17 E20. -/
import Derived.Test.YtljchmkoafahgaaGG
import Derived.Test.YtljchmkoafahgaaRC
import Derived.Test.YtljchmkoafahgaaE19
/- Contracts of l06Arcs, l06Matrix, CriticalArcs and CriticalMatrix of the reference. Conditions: the forms of the matrices. -/
namespace Go.Proofs.Ytljchmkoafahgaa
set_option linter.unusedVariables false
set_option linter.unusedSimpArgs false
open Go.RowKit

theorem keepB_times (b s : List (List Int)) (i j : Nat) (h1 : -1000000000000000 ≤ ent b i j ∧ ent b i j ≤ 1000000000000000) (h2 : -1000000000000000 ≤ ent s j i ∧ ent s j i ≤ 1000000000000000) : (times (ent b i j) (ent s j i) == 0) = keepB b s i j := by
  unfold keepB times
  by_cases e : ent b i j = -1000000000000000 ∨ ent s j i = -1000000000000000
  · rw [if_pos e]
    rcases e with e | e <;> simp [e]
  · rw [if_neg e]
    have e1 : ent b i j ≠ -1000000000000000 := fun h => e (.inl h)
    have e2 : ent s j i ≠ -1000000000000000 := fun h => e (.inr h)
    simp [e1, e2]
set_option maxHeartbeats 2000000 in
theorem l06Arcs_c (a : Option Addr) (ca : Nat) (x : List (List Int)) (R : Int × Int) (w : World) (hx : MatAt w a x) (hs : isSq x = true) (hb : bestO x x.length = some R) :
    Calls Try.prog 81 #[.slice a x.length ca] w (GivesM w (arcsM (keepX x R) x.length x.length)) := by
  obtain ⟨rx, hl1, hl2⟩ := isSq_rect hs
  obtain ⟨⟨b1, b2⟩, hN, _⟩ := best_facts hs hb
  have b2' : -1000000 ≤ R.2 ∧ R.2 ≤ 1000000 := by omega
  have hA := shift_abdW hs b1 b2'
  have hB := best_star hs hb
  have hYO := YOk.of_shift hs b1 b2'
  have hye : EBd 1000000000000000 (shiftM x R.1 R.2) := fun i j => by
    by_cases e : ent (shiftM x R.1 R.2) i j = -1000000000000000
    · rw [e]; omega
    · have := hYO.bd i j e; omega
  have hse : EBd 1000000000000000 (starM (shiftM x R.1 R.2) x.length) := starM_ebd hA hB
  have hkeep := fun i j => keepB_times (shiftM x R.1 R.2) (starM (shiftM x R.1 R.2) x.length) i j (hye i j) (hse j i)
  have hK : keepX x R = fun i j => keepB (shiftM x R.1 R.2) (starM (shiftM x R.1 R.2) x.length) i j := rfl
  have hyl : (shiftM x R.1 R.2).length = x.length := mkMat_len _ _ _
  have hsl : (starM (shiftM x R.1 R.2) x.length).length = x.length := mkMat_len _ _ _
  have hstar := fun (a : Option Addr) (ca : Nat) w' (h : MatAt w' a (shiftM x R.1 R.2)) => l03Star_c a ca (shiftM x R.1 R.2) x.length 2000000000000 w' h hYO.rect hl1 hl2 hA
  rw [hyl] at hstar
  have hBt := fun w' (h : Ext w w') => l04Best_some a ca x w' (hx.mono h) hs hb
  have hMn := fun (B : Nat) (b : Option Addr) (cb : Nat) xs w' (h : Ext w w') hy hl hr => l04Mean_of (B := B) a b ca cb x xs w' (hx.mono h) hy hl hs (R := R) hr
  have hSh := fun w' (h : Ext w w') => l04Shift_cW a ca x R.1 R.2 w' (hx.mono h) hs b1 b2'
  rw [hK]
  have HBt := Lib.hid hBt
  have HMn := Lib.hid hMn
  have HSh := Lib.hid hSh
  have HS := Lib.hid hstar
  have HF := Lib.hid (And.intro hB (And.intro hye (And.intro hse (And.intro hYO.rect (And.intro (starM_rect (shiftM x R.1 R.2) x.length) (And.intro hyl hsl))))))
  have HK := Lib.hid hkeep
  have hxl := hx.len
  clear hx rx hN hA hB hYO hye hse hstar hs hb b1 b2 b2' hkeep hK hBt hMn hSh hyl hsl
  obtain ⟨n, hn⟩ : ∃ n, x.length = n := ⟨_, rfl⟩
  rw [hn] at HBt HMn HSh HS HF HK hl1 hl2 hxl ⊢
  generalize shiftM x R.1 R.2 = Y at *
  generalize hSd : starM Y n = S at *
  have HSd := Lib.hid hSd
  clear hSd
  go_enter Try.func81, Try.ntmps81
  go_wp2_with fail
  refine (HBt.out _ (Ext.refl _)).mono ?_
  rintro e w2 ⟨b2, c2, out, rfl, hO, hol, hcy, E2⟩
  go_wp2_with fail
  refine (HMn.out _ b2 c2 out _ E2 hO hol hcy).mono ?_
  rintro e w3 ⟨rfl, E3⟩
  obtain ⟨W3, hW3, HC, HC2, hs4, hE4, hE5⟩ := box_putE w3 (.int .i64 R.1) (.int .i64 R.2) 25
  obtain ⟨q0, q1, p0, p1⟩ := HC
  obtain ⟨c0, c1, -, -⟩ := HC2
  have EE := (E2.trans E3).trans hE5
  clear hO hcy
  go_wp2_with fail
  refine (HSh.out _ EE).mono ?_
  rintro e w4 ⟨a4, c4, rfl, hO4, E4⟩
  rw [HF.out.2.2.2.2.2.1]
  rw [HF.out.2.2.2.2.2.1] at hO4
  go_wp2_with fail
  refine (HS.out _ _ _ hO4.mat).mono ?_
  rintro e w5 ⟨E5, h5, -⟩
  obtain ⟨a5, c5, rfl, hO5⟩ := h5 HF.out.1
  rw [HSd.out] at hO5
  have hMy := hO4.mat.mono E5
  have hMs := hO5.mat
  obtain ⟨p, o, rfl⟩ := hMy.base (by rw [HF.out.2.2.2.2.2.1]; omega)
  have hsl := HF.out.2.2.2.2.2.2
  obtain ⟨p', o', rfl⟩ := hMs.base (by omega)
  clear hsl
  have HMy := Lib.hid hMy
  have HMs := Lib.hid hMs
  have hEw := (EE.trans E4).trans E5
  have hO0 := OwnM.empty w5 w5.heap.size (Nat.le_refl _)
  have hE0 := (Ext.refl w5).alloc (.cells #[] 32)
  clear hMy hMs hO4 hO5 h5 q0 q1 p0 p1 c0 c1 hW3
  go_wp2
  go_loopw [10, 11] (fun s i wr => ∃ (k : Nat), k ≤ n ∧ i = .int .i64 k ∧ Ext w5 wr ∧ OwnM wr w5.heap.size s (arcsM (fun i j => keepB Y S i j) n k)) (fun _ i _ => n - (intOf i).toNat)
  case atStart => exact ⟨0, Nat.zero_le _, rfl, hE0, hO0⟩
  case round =>
    obtain ⟨k, hk, rfl, hE, hO⟩ := hrel
    clear hO0 hE0
    by_cases hlt : k < n
    · have e0 : arcsM (fun i j => keepB Y S i j) n k = arcsM (fun i j => keepB Y S i j) n k ++ arcR (fun i j => keepB Y S i j) k 0 := by simp [arcR]
      rw [e0] at hO
      go_wp2
      go_loopw [10, 12] (fun s i wr => ∃ (t : Nat), t ≤ n ∧ i = .int .i64 t ∧ Ext w5 wr ∧ OwnM wr w5.heap.size s (arcsM (fun i j => keepB Y S i j) n k ++ arcR (fun i j => keepB Y S i j) k t)) (fun _ i _ => n - (intOf i).toNat)
      case atStart => exact ⟨0, Nat.zero_le _, rfl, hE, hO⟩
      case round =>
        obtain ⟨t, ht, rfl, hE2, hO2⟩ := hrel
        clear hO hE e0
        by_cases hltn : t < n
        · obtain ⟨q, o2, c, d1, dd, -⟩ := HMy.out.hdr HF.out.2.2.2.1 hltn (by omega)
          have d2 := hE2.cell (dd k hlt)
          replace d1 := hE2.cell d1
          obtain ⟨q', o3, c', e1, ee, -⟩ := HMs.out.hdr HF.out.2.2.2.2.1 hlt (by omega)
          have e2 := hE2.cell (ee t hltn)
          replace e1 := hE2.cell e1
          have hKb := HK.out t k
          have bu := HF.out.2.1 t k
          have bv := HF.out.2.2.1 k t
          have hT := fun w' => l01Times_c (ent Y t k) (ent S k t) w' (by omega) (by omega)
          generalize hkb : keepB Y S t k = kb at *
          have HKB := Lib.hid hkb
          clear dd ee hkb
          generalize ent Y t k = u at *
          generalize ent S k t = v at *
          generalize times u v = tv at *
          have HT := Lib.hid hT
          clear hT
          cases kb
          · have Hst := Lib.hid (show arcR (fun i j => keepB Y S i j) k (t + 1) = arcR (fun i j => keepB Y S i j) k t by simp [arcR, HKB.out])
            clear HKB
            go_wp2_with fail
            go_big_quiet ((go_at_call 113; exact quiet_pure (HT.out _)))
            go_wp2
            go_roundw
            case rel => exact ⟨t + 1, by omega, by go_num, hE2.drewN nq, by rw [Hst.out]; exact hO2.ext ((Ext.refl wr).drewN nq)⟩
            case measure => simp [intOf]; omega
          · have Hst := Lib.hid (show arcR (fun i j => keepB Y S i j) k (t + 1) = arcR (fun i j => keepB Y S i j) k t ++ [[(k : Int), (t : Int)]] by simp [arcR, HKB.out])
            clear HKB
            have hln : (arcsM (fun i j => keepB Y S i j) n k ++ arcR (fun i j => keepB Y S i j) k t).length ≤ 1000000000 := by
              have h1 := arcsM_len (fun i j => keepB Y S i j) n k; have h2 := arcR_len (fun i j => keepB Y S i j) k t
              have h3 : k * n ≤ 10 * 10 := Nat.mul_le_mul (by omega) hl2
              rw [List.length_append]; omega
            go_wp2_with fail
            go_big_quiet ((go_at_call 113; exact quiet_pure (HT.out _)))
            go_upto_region 13 with fail
            have hO3 := hO2.ext ((Ext.refl wr).drewN nq)
            have hE3 := hE2.drewN nq
            clear hE2 hO2 d1 d2 e1 e2
            generalize wr.drewN nq = wd at *
            have hr7 := OwnI.lit2 wd (k : Int) (t : Int)
            have hE7 := (Ext.refl wd).alloc (.cells #[.int .i64 (k : Int), .int .i64 (t : Int)] 2)
            have hE8 := hE7.alloc (.cells #[.slice (some ⟨wd.heap.size, 0, none⟩) 2 2] 32)
            have hr8 := hr7.ext ((Ext.refl _).alloc (.cells #[.slice (some ⟨wd.heap.size, 0, none⟩) 2 2] 32))
            have hc9 : ((wd.alloc (.cells #[.int .i64 (k : Int), .int .i64 (t : Int)] 2)).alloc (.cells #[.slice (some ⟨wd.heap.size, 0, none⟩) 2 2] 32)).cell? ⟨wd.heap.size + 1, 0, none⟩ = some (.slice (some ⟨wd.heap.size, 0, none⟩) [(k : Int), (t : Int)].length 2) := by simp
            have hsz := hE3.size
            go_wp2_with (at_builtin; refine app_m rfl _ _ rfl w5.heap.size _ _ rfl hO3 hE8 ⟨wd.heap.size + 1, 0, none⟩ 1 (some ⟨wd.heap.size, 0, none⟩) 2 [(k : Int), (t : Int)] rfl hc9 hr8 hln hsz ?_)
            intro v' w' hO4 hg
            have hEg := Ext.grown (hE3.trans hE8) hg (fun b hb => hO3.base b hb)
            go_wp2
            go_roundw
            case rel => exact ⟨t + 1, by omega, by go_num, hEg, by rw [Hst.out]; exact hO4⟩
            case measure => simp [intOf]; omega
        · obtain rfl : n = t := by omega
          go_wp2
          go_roundw
          case rel => exact ⟨k + 1, by omega, by go_num, hE2, hO2⟩
          case measure => simp [intOf]; omega
    · obtain rfl : n = k := by omega
      go_wp2
      go_ret
      obtain ⟨a', cap', rfl, _⟩ := hO.at
      exact ⟨a', cap', rfl, hO.mono hEw.size, hEw.trans hE⟩
theorem arcsM_rect (K : Nat → Nat → Bool) (n : Nat) : Rect (arcsM K n n) (arcsM K n n).length 2 := ⟨rfl, fun i hi => by
  obtain ⟨a, b, _, _, _, e⟩ := arcsM_at hi
  rw [e]; rfl⟩
/-- the matrix behind the first k arcs -/
def ArcD (K : Nat → Nat → Bool) (n k i j : Nat) : Prop := ∃ t, t < k ∧ row (arcsM K n n) t = [(j : Int), (i : Int)]
theorem arcD_succ {K : Nat → Nat → Bool} {n k i0 j0 : Nat} (h : row (arcsM K n n) k = [(j0 : Int), (i0 : Int)]) (i j : Nat) : ArcD K n (k + 1) i j ↔ ArcD K n k i j ∨ (i = i0 ∧ j = j0) := by
  unfold ArcD
  constructor
  · rintro ⟨t, ht, e⟩
    by_cases ek : t = k
    · subst ek
      rw [h] at e
      simp only [List.cons.injEq, and_true] at e
      right; omega
    · left; exact ⟨t, by omega, e⟩
  · rintro (⟨t, ht, e⟩ | ⟨rfl, rfl⟩)
    · exact ⟨t, by omega, e⟩
    · exact ⟨k, by omega, h⟩
theorem arcD_all {K : Nat → Nat → Bool} {n i j : Nat} (hi : i < n) (hj : j < n) : ArcD K n (arcsM K n n).length i j ↔ K i j = true := by
  unfold ArcD
  constructor
  · rintro ⟨t, ht, e⟩
    obtain ⟨i', j', _, _, h3, h4⟩ := arcsM_at ht
    rw [h4] at e
    simp only [List.cons.injEq, and_true] at e
    obtain ⟨rfl, rfl⟩ : j' = j ∧ i' = i := by omega
    exact h3
  · intro h
    have hm : [(j : Int), (i : Int)] ∈ arcsM K n n := arcsM_mem.2 ⟨i, j, hi, hj, h, rfl⟩
    obtain ⟨t, ht, e⟩ := List.getElem_of_mem hm
    exact ⟨t, ht, by rw [row_of_lt ht, e]⟩
set_option maxHeartbeats 2000000 in
theorem l06Matrix_c (a : Option Addr) (ca : Nat) (x : List (List Int)) (R : Int × Int) (w : World) (hx : MatAt w a x) (hs : isSq x = true) (hb : bestO x x.length = some R) :
    Calls Try.prog 79 #[.slice a x.length ca] w (GivesM w (critM x R)) := by
  obtain ⟨rx, hl1, hl2⟩ := isSq_rect hs
  have hAr := fun w' (h : Ext w w') => l06Arcs_c a ca x R w' (hx.mono h) hs hb
  have hcm : critM x R = mkMat x.length x.length (fun i j => if keepX x R i j then ent x i j else -1000000000000000) := rfl
  rw [hcm]; clear hcm
  have HX := Lib.hid (And.intro hx rx)
  have hxl := hx.len
  obtain ⟨p, o, rfl⟩ := hx.base (by omega)
  obtain ⟨n, hn⟩ : ∃ n, x.length = n := ⟨_, rfl⟩
  rw [hn] at hAr HX hl1 hl2 hxl ⊢
  generalize keepX x R = K at *
  have hlen : (arcsM K n n).length ≤ 100 := by
    have := arcsM_len K n n; have : n * n ≤ 10 * 10 := Nat.mul_le_mul hl2 hl2; omega
  have hrect := arcsM_rect K n
  have hat := fun k (hk : k < (arcsM K n n).length) => arcsM_at hk
  have hsucc := fun k i0 j0 h i j => arcD_succ (K := K) (n := n) (k := k) (i0 := i0) (j0 := j0) h i j
  have hall := fun i j hi hj => arcD_all (K := K) (n := n) (i := i) (j := j) hi hj
  generalize hD : ArcD K n = D at *
  have hD0 : ∀ i j, ¬ D 0 i j := fun i j h => by rw [← hD] at h; obtain ⟨t, ht, _⟩ := h; omega
  generalize hL : arcsM K n n = L at *
  have HA := Lib.hid hAr
  have HL := Lib.hid (And.intro hrect (And.intro hat (And.intro hsucc (And.intro hall hD0))))
  clear hAr hrect hat hsucc hall hD0 hD hL hx rx hs hb
  go_enter Try.func79, Try.ntmps79
  go_wp2_with fail
  refine (l02Bottom_c n n _ (by omega) (by omega)).mono ?_
  rintro e w1 ⟨a1, c1, rfl, hO, E1⟩
  rw [mkMat_len]
  have hl0 : (mkMat n n fun _ _ => (-1000000000000000 : Int)).length = n := mkMat_len _ _ _
  rw [hl0] at hO
  obtain ⟨g, A, C, rfl, hM⟩ := hO.open (by omega)
  have hrb : Rect (mkMat n n fun _ _ => (-1000000000000000 : Int)) n n := rect_mk _ _ _
  have heb : ∀ i j, i < n → j < n → ent (mkMat n n fun _ _ => (-1000000000000000 : Int)) i j = -1000000000000000 := fun i j hi hj => mkMat_ent hi hj
  clear hO
  go_wp2_with fail
  refine (HA.out _ E1).mono ?_
  rintro e w2 ⟨a2, c2, rfl, hOa, E2⟩
  have hM2 := hM.ext E2
  have hFs := Lib.hid (FillD.start (F := fun i j => ent x i j) (I := fun _ _ => -1000000000000000) (D := D 0) hrb (fun i j hi hj => heb i j hi hj) (fun i j _ _ => HL.out.2.2.2.2 i j))
  have hEw := E1.trans E2
  have hadr : ∀ i r, i < n → A i = some ⟨r, 0, none⟩ → r < w1.heap.size := fun i r hi hA => by
    obtain ⟨r', h1, _, h3, _⟩ := hM.addr (i := i) (by rw [hl0]; exact hi) (by rw [hrb.2 i hi]; omega)
    rw [h1] at hA
    simp only [Option.some.injEq, Addr.mk.injEq, and_true] at hA
    omega
  have HAd := Lib.hid hadr
  generalize (mkMat n n fun _ _ => (-1000000000000000 : Int)) = M0 at *
  clear hM hrb heb hl0 hadr
  go_wp2
  go_loopw [5] (fun i wr => ∃ (k : Nat) (M : List (List Int)), k ≤ L.length ∧ i = .int .i64 k ∧ Ext w wr ∧ OwnM wr w1.heap.size (.slice a2 L.length c2) L ∧ Mat wr w.heap.size g c1 A C M ∧ Hid (FillD (fun i j => ent x i j) (fun _ _ => -1000000000000000) n n (D k) M)) (fun i _ => L.length - (intOf i).toNat)
  case atStart => exact ⟨0, M0, Nat.zero_le _, rfl, hEw, hOa, hM2, hFs⟩
  case round =>
    obtain ⟨k, M, hk, rfl, hE, hOa2, hM3, hF⟩ := hrel
    clear hM2 hFs hOa
    by_cases hlt : k < L.length
    · obtain ⟨i0, j0, hi0, hj0, -, hrow⟩ := HL.out.2.1 k hlt
      have hm2 := hOa2.mat
      obtain ⟨pa, oa, rfl⟩ := hm2.base (by omega)
      obtain ⟨qa, ra, cc, d1, dd, -⟩ := hm2.hdr HL.out.1 hlt (by omega)
      have d2 := dd 0 (by omega)
      have d3 := dd 1 (by omega)
      have e0 : ent L k 0 = (j0 : Int) := by unfold ent; rw [hrow]; rfl
      have e1 : ent L k 1 = (i0 : Int) := by unfold ent; rw [hrow]; rfl
      rw [e0, Nat.add_zero] at d2
      rw [e1] at d3
      obtain ⟨qx, rx, cx, f1, ff, -⟩ := HX.out.1.hdr HX.out.2 hi0 (by omega)
      have f2 := hE.cell (ff j0 hj0)
      replace f1 := hE.cell f1
      have hkM : i0 < M.length := by rw [hF.out.1.1]; exact hi0
      have hrk : (row M i0).length = n := hF.out.1.2 i0 hi0
      have g1 := hM3.cell hkM
      obtain ⟨r, hA', hBr, hrs, hce, hfe⟩ := hM3.addr hkM (by rw [hrk]; omega)
      have g2 := hce j0 (by rw [hrk]; exact hj0)
      have g3 := hfe j0
      rw [hrk, hA'] at g1
      have hset := Lib.hid (fun z => hM3.set hkM hA' j0 z)
      have hrw := HAd.out i0 r hi0 hA'
      have hsucc := HL.out.2.2.1 k i0 j0 hrow
      have hnext : Hid (FillD (fun i j => ent x i j) (fun _ _ => -1000000000000000) n n (D (k + 1)) (M.set i0 ((row M i0).set j0 (ent x i0 j0)))) := hF.out.step hi0 hj0 fun i j _ _ => by rw [hsucc]
      have HO2 := Lib.hid (fun (W : World) (h : W.heap = wr.heap) (v : Value) => (OwnM.agree hOa2 (w' := W.setCell ⟨r, j0, none⟩ v) fun b h1 h2 => by rw [Below.heap_setCell _ _ _ _ (by simp only; omega), h]))
      clear dd ff e0 e1 hce hfe hrk hA' hF hrow hm2 hOa2 hsucc
      generalize ent x i0 j0 = z at *
      go_wp2_with fail
      go_big_quiet (fail)
      go_upto_region 7 with fail
      refine region_qt_lit 13 (by kernel_rfl) (by kernel_rfl) ?_
      simp only [List.take_succ_cons, List.take_zero, List.drop_succ_cons, List.drop_zero]
      repeat (go_big_quiet_step ((fail)))
      refine wpQuiet_nil ?_
      intro _ hw'
      obtain ⟨nq, hw''⟩ := hw'
      subst hw''
      go_wp2
      go_roundw
      case rel =>
        refine ⟨k + 1, _, by omega, by go_num, ?_, ?_, ?_, hnext.out⟩
        rotate_left
        · refine HO2.out _ ?_ _; rfl
        rotate_left
        · repeat (first | exact hE | refine Ext.drewN ?_ _ | refine Ext.drew ?_ | refine Ext.set ?_ hBr _)
        · exact (hset.out _).ext ⟨rfl, rfl, rfl, Nat.le_refl _, fun _ _ => rfl⟩
      case measure => simp [intOf]; omega
    · obtain rfl : L.length = k := by omega
      have hf := hF.out
      have e : mkMat n n (fun i j => if K i j then ent x i j else -1000000000000000) = M := (rect_eq_mk hf.1 fun i j hi hj => by
        cases hkb : K i j
        · exact (hf.2 i j hi hj).2 fun h => by have := (HL.out.2.2.2.1 i j hi hj).1 h; rw [hkb] at this; cases this
        · exact (hf.2 i j hi hj).1 ((HL.out.2.2.2.1 i j hi hj).2 hkb)).symm
      have hl := hf.1.1
      have HE := Lib.hid e
      clear e hf hF
      go_wp2
      go_ret
      rw [HE.out]
      exact hM3.give hE hl rfl
theorem specCritM_c (a : Option Addr) (ca : Nat) (x : List (List Int)) (w : World) (hx : MatAt w a x) : Calls Try.prog 27 #[.slice a x.length ca] w (GivesM2 w (critV x).1 (critV x).2) := by
  have HC0 := Lib.hid (fun w' (h : Ext w w') => l06Code_c a ca x w' (hx.mono h))
  cases hs : isSq x
  · have e : critV x = ([], 1) := by simp [critV, hs]
    rw [e]; clear e
    have e : codeV x = 1 := by simp [codeV, hs]
    rw [e] at HC0
    clear e hs hx
    go_enter Try.func27, Try.ntmps27
    go_wp2_with fail
    refine (HC0.out _ (Ext.refl _)).mono ?_
    rintro e w1 ⟨rfl, E1⟩
    go_wp2
    go_ret2
    exact ⟨none, 0, rfl, .inl ⟨rfl, rfl⟩, E1⟩
  cases hb : bestO x x.length with
  | none =>
    have e : critV x = ([], 4) := by simp [critV, hs, hb]
    rw [e]; clear e
    have e : codeV x = 4 := by simp [codeV, hs, hb]
    rw [e] at HC0
    clear e hs hb hx
    go_enter Try.func27, Try.ntmps27
    go_wp2_with fail
    refine (HC0.out _ (Ext.refl _)).mono ?_
    rintro e w1 ⟨rfl, E1⟩
    go_wp2
    go_ret2
    exact ⟨none, 0, rfl, .inl ⟨rfl, rfl⟩, E1⟩
  | some R =>
    have e : critV x = (critM x R, 0) := by simp [critV, hs, hb]
    rw [e]; clear e
    have e : codeV x = 0 := by simp [codeV, hs, hb]
    rw [e] at HC0
    have HM := Lib.hid (fun w' (h : Ext w w') => l06Matrix_c a ca x R w' (hx.mono h) hs hb)
    clear hb e hs hx
    go_enter Try.func27, Try.ntmps27
    go_wp2_with fail
    refine (HC0.out _ (Ext.refl _)).mono ?_
    rintro e w1 ⟨rfl, E1⟩
    go_wp2_with fail
    refine (HM.out _ E1).mono ?_
    rintro e w2 ⟨a2, c2, rfl, hO, E2⟩
    go_wp2
    go_ret2
    exact ⟨a2, c2, rfl, hO.mono E1.size, E1.trans E2⟩
theorem specArcs_c (a : Option Addr) (ca : Nat) (x : List (List Int)) (w : World) (hx : MatAt w a x) : Calls Try.prog 31 #[.slice a x.length ca] w (GivesM2 w (arcsV x).1 (arcsV x).2) := by
  have HC0 := Lib.hid (fun w' (h : Ext w w') => l06Code_c a ca x w' (hx.mono h))
  cases hs : isSq x
  · have e : arcsV x = ([], 1) := by simp [arcsV, hs]
    rw [e]; clear e
    have e : codeV x = 1 := by simp [codeV, hs]
    rw [e] at HC0
    clear e hs hx
    go_enter Try.func31, Try.ntmps31
    go_wp2_with fail
    refine (HC0.out _ (Ext.refl _)).mono ?_
    rintro e w1 ⟨rfl, E1⟩
    go_wp2
    go_ret2
    exact ⟨none, 0, rfl, .inl ⟨rfl, rfl⟩, E1⟩
  cases hb : bestO x x.length with
  | none =>
    have e : arcsV x = ([], 4) := by simp [arcsV, hs, hb]
    rw [e]; clear e
    have e : codeV x = 4 := by simp [codeV, hs, hb]
    rw [e] at HC0
    clear e hs hb hx
    go_enter Try.func31, Try.ntmps31
    go_wp2_with fail
    refine (HC0.out _ (Ext.refl _)).mono ?_
    rintro e w1 ⟨rfl, E1⟩
    go_wp2
    go_ret2
    exact ⟨none, 0, rfl, .inl ⟨rfl, rfl⟩, E1⟩
  | some R =>
    have e : arcsV x = (arcsM (keepX x R) x.length x.length, 0) := by simp [arcsV, hs, hb]
    rw [e]; clear e
    have e : codeV x = 0 := by simp [codeV, hs, hb]
    rw [e] at HC0
    have HM := Lib.hid (fun w' (h : Ext w w') => l06Arcs_c a ca x R w' (hx.mono h) hs hb)
    clear hb e hs hx
    go_enter Try.func31, Try.ntmps31
    go_wp2_with fail
    refine (HC0.out _ (Ext.refl _)).mono ?_
    rintro e w1 ⟨rfl, E1⟩
    go_wp2_with fail
    refine (HM.out _ E1).mono ?_
    rintro e w2 ⟨a2, c2, rfl, hO, E2⟩
    go_wp2
    go_ret2
    exact ⟨a2, c2, rfl, hO.mono E1.size, E1.trans E2⟩
end Go.Proofs.Ytljchmkoafahgaa

/- Contracts of l06Nodes, l06Components and CriticalComponents of the reference. Conditions: the forms of the matrices. -/
namespace Go.Proofs.Ytljchmkoafahgaa
set_option linter.unusedVariables false
set_option linter.unusedSimpArgs false
open Go.RowKit

/-- a slice of new memory that holds slices, however they lie -/
def OwnH (w : World) (B : Nat) (v : Value) (vals : List Value) : Prop := w.ownsRow B 32 1 v vals.length vals
theorem OwnH.mono {w : World} {B B' : Nat} {v : Value} {vals : List Value} (h : OwnH w B v vals) (hb : B' ≤ B) : OwnH w B' v vals := by
  refine ⟨h.1, ?_⟩
  rcases h.2 with h2 | ⟨g, cap, cur, h1, h2, h3⟩
  · exact .inl h2
  · exact .inr ⟨g, cap, cur, h1, by omega, h3⟩
theorem OwnH.ext {w w' : World} {B : Nat} {v : Value} {vals : List Value} (h : OwnH w B v vals) (e : Ext w w') : OwnH w' B v vals := by
  refine ⟨h.1, ?_⟩
  rcases h.2 with h2 | ⟨g, cap, cur, h1, h2, h3, h4⟩
  · exact .inl h2
  · exact .inr ⟨g, cap, cur, h1, h2, by rw [Below.block e g (Array.getElem?_eq_some_iff.1 h3).1]; exact h3, h4⟩
theorem OwnH.base {w : World} {B : Nat} {v : Value} {vals : List Value} (h : OwnH w B v vals) : ∀ k, v.ownBlock = some k → B ≤ k := fun k hk => (World.ownsRow.lt h k hk).1
theorem OwnH.empty (w : World) (B : Nat) (hB : B ≤ w.heap.size) : OwnH (w.alloc (.cells #[] 32)) B (.slice (some ⟨w.heap.size, 0, none⟩) 0 0) [] :=
  World.ownsRow_lit w #[] 0 hB (Nat.zero_le _) rfl
/-- append of one slice -/
theorem app_h {ops : Array Oper} {rest : List Oper} {o : Oper} {a : Act} {Q : Exit → Act → World → Prop} {w : World} (hgd : o.guard = none) (s x : Operand)
    (ho : o.op = .call { callee := .builtin .append, args := #[s, x], argTypes := #[22, 22] })
    (B : Nat) (v : Value) (vals : List Value) (hs : a.eval s = v) (hown : OwnH w B v vals) (ad : Addr) (c : Nat) (ar : Option Addr) (lr cr : Nat) (hx : a.eval x = .slice (some ad) 1 c)
    (hc : w.cell? ad = some (.slice ar lr cr)) (hl : vals.length ≤ 1000000000) (hB : B ≤ w.heap.size)
    (h : ∀ v' w', OwnH w' B v' (vals ++ [.slice ar lr cr]) → w.grownBy w' v.ownBlock → wpList Try.prog ops Q rest (a.put o.dst v') w') : wpList Try.prog ops Q (o :: rest) a w := by
  obtain ⟨i0, hi, hz0, hz1, hz2⟩ := info_parts info_l
  refine wpList_append_own w hgd s x 22 ho B 32 i0 (.slice none 0 0) 1 24 Try.underlying22 hi hz0 hz1 hz2 rfl (by decide) v vals.length vals hs hown ad 1 c [.slice ar lr cr] hx rfl ?_ ?_ ?_ ?_ hB ?_
  · intro j u hj
    match j, hj with
    | 0, hj =>
      simp only [List.getElem?_cons_zero, Option.some.injEq] at hj
      subst hj
      have : ad.add 0 = ad := by simp [Addr.add]
      rw [this]; exact hc
  · intro u hu; simp only [List.mem_singleton] at hu; subst hu; rfl
  · have : maxLen = 9223372036854775807 := rfl
    omega
  · omega
  · intro v' w' h1 h2 _
    refine h v' w' ?_ h2
    unfold OwnH
    simpa using h1
/-- such a slice of some rows of a list of lists -/
theorem OwnH.mat {w0 w : World} {B B' g cap : Nat} {A : Nat → Option Addr} {C : Nat → Nat} {m : List (List Int)} (hA : Mat w0 B g cap A C m) (hE : Ext w0 w) {v : Value} {K : List Nat} (hO : OwnH w B' v (K.map fun t => .slice (A t) (row m t).length (C t)))
    (hK : ∀ t, t ∈ K → t < m.length) (hnd : K.Nodup) (hb : B' ≤ B) : OwnM w B' v (K.map (row m)) := by
  have hget : ∀ i (hi : i < K.length), K.getD i 0 = K[i] := fun i hi => by simp [hi]
  have hrow : ∀ i, i < K.length → row (K.map (row m)) i = row m (K.getD i 0) := fun i hi => by
    rw [row_of_lt (by simpa using hi), List.getElem_map, hget i hi]
  have hlt : ∀ i, i < K.length → K.getD i 0 < m.length := fun i hi => by rw [hget i hi]; exact hK _ (List.getElem_mem hi)
  refine OwnM.of_hdr (A := fun i => A (K.getD i 0)) (C := fun i => C (K.getD i 0)) ?_ (fun i hi => ?_) (fun i j r o o' hi hj hne => ?_)
  · have e : ((List.range (K.map (row m)).length).map fun i => Value.slice (A (K.getD i 0)) (row (K.map (row m)) i).length (C (K.getD i 0))) = K.map fun t => .slice (A t) (row m t).length (C t) := by
      apply List.ext_getElem
      · simp
      · intro i h1 h2
        have hi : i < K.length := by simpa using h2
        simp only [List.getElem_map, List.getElem_range]
        rw [hrow i hi, hget i hi]
    rw [e]
    unfold OwnH at hO
    simpa using hO
  · have hi' : i < K.length := by simpa using hi
    rw [hrow i hi']
    exact ((hA.own _ (hlt i hi')).ext hE).mono hb
  · have hi' : i < K.length := by simpa using hi
    have hj' : j < K.length := by simpa using hj
    refine hA.dj _ _ r o o' (hlt i hi') (hlt j hj') fun e => hne ?_
    rw [hget i hi', hget j hj'] at e
    exact (List.getElem_inj hnd).1 e

set_option maxHeartbeats 1000000 in
theorem l06Nodes_c (a : Option Addr) (ca : Nat) (x : List (List Int)) (R : Int × Int) (w : World) (hx : MatAt w a x) (hs : isSq x = true) (hb : bestO x x.length = some R) :
    Calls Try.prog 128 #[.slice a x.length ca] w (GivesI w (nodesX x R)) := by
  obtain ⟨rx, hl1, hl2⟩ := isSq_rect hs
  have hA := l06Arcs_c a ca x R w hx hs hb
  have hxl := hx.len
  have hrect := arcsM_rect (keepX x R) x.length
  have hlen : (arcsM (keepX x R) x.length x.length).length ≤ 100 := by
    have := arcsM_len (keepX x R) x.length x.length; have : x.length * x.length ≤ 10 * 10 := Nat.mul_le_mul hl2 hl2; omega
  have hd : nodesX x R = nodesR (arcsM (keepX x R) x.length x.length) (arcsM (keepX x R) x.length x.length).length := rfl
  rw [hd]
  have HA := Lib.hid hA
  clear hA hd hx rx hs hb
  generalize arcsM (keepX x R) x.length x.length = L at *
  have HR := Lib.hid hrect
  clear hrect
  go_enter Try.func128, Try.ntmps128
  go_wp2_with fail
  refine HA.out.mono ?_
  rintro e w1 ⟨a1, c1, rfl, hOa, E1⟩
  have HM := Lib.hid hOa.mat
  have hO0 := OwnI.empty w1 w1.heap.size (Nat.le_refl _)
  have hE0 := (Ext.refl w1).alloc (.cells #[] 2)
  clear hOa
  go_wp2
  go_loopw [4, 5] (fun s i wr => ∃ (k : Nat), k ≤ L.length ∧ i = .int .i64 k ∧ Ext w1 wr ∧ OwnI wr w1.heap.size s (nodesR L k)) (fun _ i _ => L.length - (intOf i).toNat)
  case atStart => exact ⟨0, Nat.zero_le _, rfl, hE0, hO0⟩
  case round =>
    obtain ⟨k, hk, rfl, hE, hO⟩ := hrel
    clear hO0 hE0
    by_cases hlt : k < L.length
    · obtain ⟨az, cs, rfl, hi⟩ := hO.at
      have hm := HM.out
      obtain ⟨p, o, rfl⟩ := hm.base (by omega)
      obtain ⟨q, r, c, d1, dd, -⟩ := hm.hdr HR.out hlt (by omega)
      have d2 := hE.cell (dd 0 (by omega))
      replace d1 := hE.cell d1
      rw [Nat.add_zero] at d2
      have hlen2 := nodesR_len L k
      have hst : nodesR L (k + 1) = if has (nodesR L k) (ent L k 0) then nodesR L k else nodesR L k ++ [ent L k 0] := rfl
      have hHs := l01Has_c az cs (nodesR L k) (ent L k 0) wr hi
      clear dd hm
      generalize ent L k 0 = z at *
      cases hh : has (nodesR L k) z
      · rw [hh] at hHs hst
        have Hst := Lib.hid (show nodesR L (k + 1) = nodesR L k ++ [z] from hst)
        have HHs := Lib.hid hHs
        have hln : (nodesR L k).length ≤ 1000000000 := by omega
        have hE2 := hE.alloc (.cells #[.int .i64 z] 2)
        have hsz := hE2.size
        clear hst hHs hh
        go_wp2_with fail
        refine HHs.out.mono ?_
        rintro e w' ⟨rfl, rfl⟩
        go_wp2_with (at_builtin; refine app_i rfl _ _ rfl w1.heap.size _ _ rfl (hO.ext ((Ext.refl wr).alloc _)) ⟨wr.heap.size, 0, none⟩ 1 z rfl (cell_one _ _ _) hln hsz ?_)
        intro v' w' hO4 hg
        have hEg := grown_i hE hO (Nat.le_refl _) hg
        go_wp2
        go_roundw
        case rel => exact ⟨k + 1, by omega, by go_num, hEg, by rw [Hst.out]; exact hO4⟩
        case measure => simp [intOf]; omega
      · rw [hh] at hHs hst
        have Hst := Lib.hid (show nodesR L (k + 1) = nodesR L k from hst)
        have HHs := Lib.hid hHs
        clear hst hHs hh
        go_wp2_with fail
        refine HHs.out.mono ?_
        rintro e w' ⟨rfl, rfl⟩
        go_wp2
        go_roundw
        case rel => exact ⟨k + 1, by omega, by go_num, hE, by rw [Hst.out]; exact hO⟩
        case measure => simp [intOf]; omega
    · obtain rfl : L.length = k := by omega
      obtain ⟨az, cs, rfl, hi⟩ := hO.at
      go_wp2
      go_ret
      exact ⟨az, cs, rfl, hO.mono E1.size, E1.trans hE⟩
set_option maxHeartbeats 1000000 in
theorem l06Comps_c (a : Option Addr) (ca : Nat) (x : List (List Int)) (R : Int × Int) (w : World) (hx : MatAt w a x) (hs : isSq x = true) (hb : bestO x x.length = some R) :
    Calls Try.prog 82 #[.slice a x.length ca] w (GivesM w (critCs x R)) := by
  have hl := isSq_rect hs
  have hM := l06Matrix_c a ca x R w hx hs hb
  have hC := fun (a : Option Addr) (ca : Nat) w' (h : MatAt w' a (critM x R)) => l05Components_c a ca (critM x R) w' h (crit_sq hs)
  rw [critM_len] at hC
  have hN := fun w' (h : Ext w w') => l06Nodes_c a ca x R w' (hx.mono h) hs hb
  have hsame : critCs x R = (compsM (wB (critM x R) x.length) x.length x.length).filter (fun c => !!has (nodesX x R) (nth c 0)) := comps_same hs hb
  rw [hsame]
  have hcl : (critM x R).length = x.length := critM_len x R
  have hmem := fun c (hc : c ∈ compsM (wB (critM x R) x.length) x.length x.length) => compsM_mem.1 hc
  have hpos : ∀ t, t < (compsM (wB (critM x R) x.length) x.length x.length).length → 0 < (row (compsM (wB (critM x R) x.length) x.length x.length) t).length := fun t ht => by
    obtain ⟨i, h1, h2, _⟩ := hmem _ (show row _ t ∈ _ by rw [row_of_lt ht]; exact List.getElem_mem ht)
    rw [h2]; exact ownC_pos (wB_refl _ _ i) h1
  have hlen := compsM_len (wB (critM x R) x.length) x.length x.length
  have hxl := hx.len
  have hcp := comps_pos (K := wB (critM x R) x.length) (n := x.length) (by omega) (wB_refl _ _ 0)
  have HM := Lib.hid hM
  have HC := Lib.hid hC
  have HN := Lib.hid hN
  have HL := Lib.hid (And.intro hcl hpos)
  clear hM hC hN hsame hcl hmem hpos hx hs hb
  generalize critM x R = Y at *
  generalize compsM (wB Y x.length) x.length x.length = m at *
  generalize nodesX x R = nd at *
  go_enter Try.func82, Try.ntmps82
  go_wp2_with fail
  refine HM.out.mono ?_
  rintro e w1 ⟨a1, c1, rfl, hO1, E1⟩
  rw [HL.out.1]
  have hM1 := Lib.hid hO1.mat
  clear hO1
  go_wp2_with fail
  refine (HC.out _ _ _ hM1.out).mono ?_
  rintro e w2 ⟨a2, c2, rfl, hO2, E2⟩
  obtain ⟨g, A, C, rfl, hMat⟩ := hO2.open hcp
  have hE2 := E1.trans E2
  clear hO2
  go_wp2_with fail
  refine (HN.out _ hE2).mono ?_
  rintro e w3 ⟨a3, c3, rfl, hO3, E3⟩
  have hNd := Lib.hid hO3.ints
  have hE3 := hE2.trans E3
  have hO0 := OwnH.empty w3 w3.heap.size (Nat.le_refl _)
  have hE0 := (Ext.refl w3).alloc (.cells #[] 32)
  have HMat := Lib.hid hMat
  have hnl := hO3.ints.len
  clear hMat hO3
  go_wp2
  go_loopw [5, 6] (fun s i wr => ∃ (k : Nat), k ≤ m.length ∧ i = .int .i64 k ∧ Ext w3 wr ∧ OwnH wr w3.heap.size s ((keptI (fun t => !has nd (nth (row m t) 0)) k).map fun t => .slice (A t) (row m t).length (C t))) (fun _ i _ => m.length - (intOf i).toNat)
  case atStart => exact ⟨0, Nat.zero_le _, rfl, hE0, hO0⟩
  case round =>
    obtain ⟨k, hk, rfl, hE, hO⟩ := hrel
    clear hO0 hE0
    by_cases hlt : k < m.length
    · have hE23 := E3.trans hE
      have d1 := hE23.cell (HMat.out.cell hlt)
      have hpk := HL.out.2 k hlt
      obtain ⟨r, hA, hBr, hrs, hce, hfe⟩ := HMat.out.addr hlt hpk
      have d2 := hE23.cell (hce 0 hpk)
      rw [show ent m k 0 = nth (row m k) 0 from rfl] at d2
      rw [hA] at d1
      have HA := Lib.hid hA
      have hHs := l01Has_c a3 c3 nd (nth (row m k) 0) wr (hNd.out.mono hE)
      have hkl := keptI_len (fun t => !has nd (nth (row m t) 0)) k
      clear hce hfe hA
      cases hh : has nd (nth (row m k) 0)
      · rw [hh] at hHs
        have hst : keptI (fun t => !has nd (nth (row m t) 0)) (k + 1) = keptI (fun t => !has nd (nth (row m t) 0)) k := by
          simp only [keptI]; rw [if_pos (by rw [hh]; rfl)]
        have Hst := Lib.hid hst
        have HHs := Lib.hid hHs
        clear hst hHs hh
        generalize nth (row m k) 0 = z at *
        go_wp2_with fail
        refine HHs.out.mono ?_
        rintro e w' ⟨rfl, rfl⟩
        go_wp2
        go_roundw
        case rel => exact ⟨k + 1, by omega, by go_num, hE, by rw [Hst.out]; exact hO⟩
        case measure => simp [intOf]; omega
      · rw [hh] at hHs
        have hst : keptI (fun t => !has nd (nth (row m t) 0)) (k + 1) = keptI (fun t => !has nd (nth (row m t) 0)) k ++ [k] := by
          simp only [keptI]; rw [if_neg (by rw [hh]; simp)]
        have Hst := Lib.hid hst
        have HHs := Lib.hid hHs
        have hln : ((keptI (fun t => !has nd (nth (row m t) 0)) k).map fun t => Value.slice (A t) (row m t).length (C t)).length ≤ 1000000000 := by rw [List.length_map]; omega
        have hE4 := hE.alloc (.cells #[.slice (some ⟨r, 0, none⟩) (row m k).length (C k)] 32)
        have hsz := hE4.size
        clear hst hHs hh
        go_wp2_with fail
        refine HHs.out.mono ?_
        rintro e w' ⟨rfl, rfl⟩
        go_wp2_with (at_builtin; refine app_h rfl _ _ rfl w3.heap.size _ _ rfl (hO.ext ((Ext.refl wr).alloc _)) ⟨wr.heap.size, 0, none⟩ 1 (some ⟨r, 0, none⟩) (row m k).length (C k) rfl (cell_one _ _ _) hln hsz ?_)
        intro v' w' hO4 hg
        have hEg := hE4.grown hg (fun b hb => hO.base b hb)
        have e4 : ((keptI (fun t => !has nd (nth (row m t) 0)) k).map fun t => Value.slice (A t) (row m t).length (C t)) ++ [.slice (some ⟨r, 0, none⟩) (row m k).length (C k)] = (keptI (fun t => !has nd (nth (row m t) 0)) (k + 1)).map fun t => Value.slice (A t) (row m t).length (C t) := by
          rw [Hst.out, List.map_append, List.map_singleton, HA.out]
        rw [e4] at hO4
        clear e4
        go_wp2
        go_roundw
        case rel => exact ⟨k + 1, by omega, by go_num, hEg, hO4⟩
        case measure => simp [intOf]; omega
    · obtain rfl : m.length = k := by omega
      have hrows := keptI_rows (fun c => !has nd (nth c 0)) m m.length (Nat.le_refl _)
      rw [List.take_length] at hrows
      have hfin := OwnH.mat HMat.out (E3.trans hE) (hO.mono hE3.size) (fun t ht => (keptI_mem.1 ht).1) (keptI_nodup _ _) E1.size
      rw [← hrows] at hfin
      obtain ⟨az, cz, rfl, hm⟩ := hfin.at
      have HFin := Lib.hid hfin
      have hEf := hE3.trans hE
      clear hfin hO hm hrows
      go_wp2
      go_ret
      exact ⟨az, cz, rfl, HFin.out, hEf⟩
theorem specCC_c (a : Option Addr) (ca : Nat) (x : List (List Int)) (w : World) (hx : MatAt w a x) : Calls Try.prog 33 #[.slice a x.length ca] w (GivesM2 w (critCsV x).1 (critCsV x).2) := by
  have HC0 := Lib.hid (fun w' (h : Ext w w') => l06Code_c a ca x w' (hx.mono h))
  cases hs : isSq x
  · have e : critCsV x = ([], 1) := by simp [critCsV, hs]
    rw [e]; clear e
    have e : codeV x = 1 := by simp [codeV, hs]
    rw [e] at HC0
    clear e hs hx
    go_enter Try.func33, Try.ntmps33
    go_wp2_with fail
    refine (HC0.out _ (Ext.refl _)).mono ?_
    rintro e w1 ⟨rfl, E1⟩
    go_wp2
    go_ret2
    exact ⟨none, 0, rfl, .inl ⟨rfl, rfl⟩, E1⟩
  cases hb : bestO x x.length with
  | none =>
    have e : critCsV x = ([], 4) := by simp [critCsV, hs, hb]
    rw [e]; clear e
    have e : codeV x = 4 := by simp [codeV, hs, hb]
    rw [e] at HC0
    clear e hs hb hx
    go_enter Try.func33, Try.ntmps33
    go_wp2_with fail
    refine (HC0.out _ (Ext.refl _)).mono ?_
    rintro e w1 ⟨rfl, E1⟩
    go_wp2
    go_ret2
    exact ⟨none, 0, rfl, .inl ⟨rfl, rfl⟩, E1⟩
  | some R =>
    have e : critCsV x = (critCs x R, 0) := by simp [critCsV, hs, hb]
    rw [e]; clear e
    have e : codeV x = 0 := by simp [codeV, hs, hb]
    rw [e] at HC0
    have HM := Lib.hid (fun w' (h : Ext w w') => l06Comps_c a ca x R w' (hx.mono h) hs hb)
    clear hb e hs hx
    go_enter Try.func33, Try.ntmps33
    go_wp2_with fail
    refine (HC0.out _ (Ext.refl _)).mono ?_
    rintro e w1 ⟨rfl, E1⟩
    go_wp2_with fail
    refine (HM.out _ E1).mono ?_
    rintro e w2 ⟨a2, c2, rfl, hO, E2⟩
    go_wp2
    go_ret2
    exact ⟨a2, c2, rfl, hO.mono E1.size, E1.trans E2⟩
end Go.Proofs.Ytljchmkoafahgaa
