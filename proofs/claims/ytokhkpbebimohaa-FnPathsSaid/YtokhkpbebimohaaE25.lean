/- Contracts of heaviestPath and HeaviestPath, the program's. Conditions: the forms of the matrices. -/
import Derived.Test.YtokhkpbebimohaaK17
import Derived.Test.YtokhkpbebimohaaE7
import Derived.Test.YtokhkpbebimohaaB4
import Derived.Test.YtokhkpbebimohaaL10
import Derived.Deep.RegionLaw
import Derived.Deep.LoopGhost
namespace Go.Proofs.Ytokhkpbebimohaa
set_option linter.unusedVariables false
set_option linter.unusedSimpArgs false
open Go.RowKit

theorem OwnM.lit1 {w : World} {B r n c : Nat} {xs : List Int} (hB : B ≤ w.heap.size) (h1 : OwnI w B (.slice (some ⟨r, 0, none⟩) n c) xs) :
    OwnM (w.alloc (.cells #[.slice (some ⟨r, 0, none⟩) n c] 34)) B (.slice (some ⟨w.heap.size, 0, none⟩) 1 1) [xs] := by
  have l1 := h1.len
  have hE := (Ext.refl w).alloc (.cells #[.slice (some ⟨r, 0, none⟩) n c] 34)
  have r0 : row [xs] 0 = xs := rfl
  refine OwnM.of_hdr (A := fun i => some ⟨r, 0, none⟩) (C := fun _ => c) ?_ (fun i hi => ?_) (fun i j q o o' hi hj hij ha hb => ?_)
  · have e : ((List.range [xs].length).map fun i => Value.slice (some ⟨r, 0, none⟩) (row [xs] i).length c) = [.slice (some ⟨r, 0, none⟩) n c] := by
      show [Value.slice _ (row [xs] 0).length c] = _
      rw [r0, ← l1]
    rw [e]
    exact World.ownsRow_lit w #[.slice (some ⟨r, 0, none⟩) n c] 1 hB (by decide) rfl
  · obtain rfl : i = 0 := by simpa using hi
    rw [r0, ← l1]; exact h1.ext hE
  · have : i = 0 := by simpa using hi
    have : j = 0 := by simpa using hj
    omega
/-- the rows that the program collects -/
def leftL (A : Nat → Nat → Int) (n u k : Nat) : List (List Int) := (List.range (k + 1)).map fun j => mkRow n (lk A n u j)
theorem leftL_len (A : Nat → Nat → Int) (n u k : Nat) : (leftL A n u k).length = k + 1 := by simp [leftL]
theorem leftL_row {A : Nat → Nat → Int} {n u k j : Nat} (h : j < k + 1) : row (leftL A n u k) j = mkRow n (lk A n u j) := by unfold row leftL; simp [h]
theorem leftL_succ (A : Nat → Nat → Int) (n u k : Nat) : leftL A n u (k + 1) = leftL A n u k ++ [mkRow n (lk A n u (k + 1))] := by unfold leftL; rw [List.range_succ, List.map_append]; rfl
theorem leftL_ent {A : Nat → Nat → Int} {n u k j v : Nat} (h : j < k + 1) (hv : v < n) : ent (leftL A n u k) j v = lk A n u j v := by unfold ent; rw [leftL_row h, mkRow_nth hv]
theorem lk_step (x : List (List Int)) (u k : Nat) : mkRow x.length (appF x.length (mkMat x.length x.length fun i j => ent x j i) (mkRow x.length (lk (ent x) x.length u k))) = mkRow x.length (lk (ent x) x.length u (k + 1)) := by
  refine list_ext_nth (by rw [mkRow_len, mkRow_len]) fun v hv => ?_
  rw [mkRow_len] at hv
  rw [mkRow_nth hv, mkRow_nth hv]
  refine mx_congr fun z hz => ?_
  rw [mkMat_ent hv hz, mkRow_nth hz]
  unfold times; split <;> split <;> omega
theorem lk_vbd {A : Nat → Nat → Int} {n : Nat} (h : ABd A n 1000000) (u : Nat) {k : Nat} (hk : k ≤ 1000) : VBd 4000000000000000000 (mkRow n (lk A n u k)) := fun i => by
  by_cases hi : i < n
  · rw [mkRow_nth hi]
    rcases lk_bd h (u := u) k i with e | e
    · rw [e]; omega
    · omega
  · have : nth (mkRow n (lk A n u k)) i = 0 := by unfold nth; simp [List.getD_eq_getElem?_getD, mkRow, hi]
    omega
theorem fill_set {n j : Nat} (hj : j < n) : (mkRow n fun i => if i < j then (-1000000000000000 : Int) else 0).set j (-1000000000000000) = mkRow n fun i => if i < j + 1 then (-1000000000000000 : Int) else 0 := by
  refine list_ext_nth (by simp [mkRow_len]) fun i hi => ?_
  have hi' : i < n := by simpa [mkRow_len] using hi
  rw [mkRow_nth hi']
  by_cases e : i = j
  · subst e; unfold nth; simp [List.getD_eq_getElem?_getD, mkRow_len, hi']
  · have : nth ((mkRow n fun i => if i < j then (-1000000000000000 : Int) else 0).set j (-1000000000000000)) i = nth (mkRow n fun i => if i < j then (-1000000000000000 : Int) else 0) i := by
      unfold nth; simp [List.getD_eq_getElem?_getD, List.getElem?_set, Ne.symm e]
    rw [this, mkRow_nth hi']
    by_cases e2 : i < j
    · rw [if_pos e2, if_pos (by omega)]
    · rw [if_neg e2, if_neg (by omega)]
theorem unit_set {n u : Nat} (hu : u < n) : (mkRow n fun i => if i < n then (-1000000000000000 : Int) else 0).set u 0 = mkRow n (unitF u) := by
  refine list_ext_nth (by simp [mkRow_len]) fun i hi => ?_
  have hi' : i < n := by simpa [mkRow_len] using hi
  rw [mkRow_nth hi']
  by_cases e : i = u
  · subst e; unfold nth unitF; simp [List.getD_eq_getElem?_getD, mkRow_len, hi']
  · have : nth ((mkRow n fun i => if i < n then (-1000000000000000 : Int) else 0).set u 0) i = nth (mkRow n fun i => if i < n then (-1000000000000000 : Int) else 0) i := by
      unfold nth; simp [List.getD_eq_getElem?_getD, List.getElem?_set, Ne.symm e]
    rw [this, mkRow_nth hi', if_pos hi']; unfold unitF; rw [if_neg (Ne.symm e)]

theorem cell_drew' {w : World} {a : Addr} {v : Value} (h : w.cell? a = some v) : w.drew.cell? a = some v := h
theorem keep1g {W w' : World} {p : Addr} {x : Value} (c0 : W.cell? p = some x) (h : Ext W w') : Ext W w' ∧ w'.cell? p = some x := ⟨h, h.cell c0⟩
set_option maxRecDepth 100000 in
set_option maxHeartbeats 4000000 in
theorem heaviestPath_c (a s : Option Addr) (ca cs : Nat) (x : List (List Int)) (f u : Nat) (w : World) (hx : MatAt w a x) (hs : MatAt w s (starM x x.length)) (hq : isSq x = true) (hst : starB (ent x) x.length = true)
    (hf : f < x.length) (hu : u < x.length) (hne : fwS (ent x) x.length u f ≠ -1000000000000000) :
    Calls Try.prog 95 #[.slice a x.length ca, .slice s x.length cs, .int .i64 (f : Int), .int .i64 (u : Int)] w (GivesI w ((f : Int) :: tailL (ent x) x.length u (hpK (ent x) x.length u f) f)) := by
  obtain ⟨rx, hl1, hl2⟩ := isSq_rect hq
  have hA := isSq_abd hq
  obtain ⟨hK1, hK2, hK3⟩ := hpK_spec hA hst hl2 hu hf hne
  have hmk := run_make_row' (P := Try.prog) 34 2 (.int .i64 0) 8 Try.underlying34 info_i rfl .i64 .i64 x.length (by omega) (by omega)
  have hO1 := OwnI.made w w.heap.size x.length (Nat.le_refl _) (by omega)
  rw [List.length_replicate] at hO1
  have hE1 := (Ext.refl w).alloc (.cells (madeCells #[.int .i64 0] x.length) 2)
  have hs1 : (w.alloc (.cells (madeCells #[.int .i64 0] x.length) 2)).heap.size = w.heap.size + 1 := by simp
  obtain ⟨W1, hW1⟩ : ∃ W1, w.alloc (.cells (madeCells #[.int .i64 0] x.length) 2) = W1 := ⟨_, rfl⟩
  rw [hW1] at hO1 hE1 hs1
  have hO2 := OwnM.lit1 hE1.size hO1
  have hE2 := hE1.alloc (.cells #[.slice (some ⟨w.heap.size, 0, none⟩) x.length x.length] 34)
  obtain ⟨W2, hW2⟩ : ∃ W2, W1.alloc (.cells #[.slice (some ⟨w.heap.size, 0, none⟩) x.length x.length] 34) = W2 := ⟨_, rfl⟩
  rw [hW2] at hO2 hE2
  have ez : List.replicate x.length (0 : Int) = mkRow x.length fun i => if i < 0 then (-1000000000000000 : Int) else 0 := by
    refine list_ext_nth (by simp [mkRow_len]) fun i hi => ?_
    have hi' : i < x.length := by simpa using hi
    rw [nth_replicate _ _ hi', mkRow_nth hi', if_neg (by omega)]
  rw [ez] at hO2
  obtain ⟨g, A, C, hg, hM2⟩ := hO2.open (by simp)
  rw [hg] at hO2
  have HG := Lib.hid hg
  have HX := Lib.hid (And.intro hx (And.intro hs (And.intro rx hA)))
  have HK := Lib.hid (And.intro hK1 (And.intro hK2 hK3))
  have hgw : W1.heap.size = g := by simpa using hg
  subst hgw
  clear hx hs rx hA hq hst hK1 hK2 hK3 hO1 hO2 ez hg HG hs1
  obtain ⟨S, hS⟩ : ∃ S, fwS (ent x) x.length u f = S := ⟨_, rfl⟩
  rw [hS] at HK hne
  have HSv := Lib.hid hS
  obtain ⟨K, hK⟩ : ∃ K, hpK (ent x) x.length u f = K := ⟨_, rfl⟩
  rw [hK] at HK ⊢
  clear hS hK
  go_enter Try.func95, Try.ntmps95
  have c1 := hM2.cell (i := 0) (by simp)
  have e0 : ∀ j : Nat, (row [mkRow x.length fun i => if i < j then (-1000000000000000 : Int) else 0] 0).length = x.length := fun j => mkRow_len _ _
  rw [e0] at c1
  have E0 := Lib.hid e0
  clear e0
  go_wp2
  go_loopw [26] (fun i wr => ∃ j : Nat, j ≤ x.length ∧ i = .int .i64 (j : Int) ∧ Ext w wr ∧ Mat wr w.heap.size W1.heap.size 1 A C [mkRow x.length fun i => if i < j then (-1000000000000000 : Int) else 0]) (fun i _ => x.length - (intOf i).toNat)
  case atStart => exact ⟨0, Nat.zero_le _, rfl, hE2, hM2⟩
  case round =>
    obtain ⟨j, hj, rfl, hE, hM⟩ := hrel
    clear c1 hE2 hM2 hW1 hW2 hmk
    have c1 := hM.cell (i := 0) (by simp)
    obtain ⟨r, hAr, hBr, hrs, hce, hfe⟩ := hM.addr (i := 0) (by simp) (by rw [E0.out]; omega)
    rw [E0.out, hAr] at c1
    by_cases hlt : j < x.length
    · have c2 := hce j (by rw [E0.out]; exact hlt)
      have f2 := hfe j
      have hM' := hM.set (i := 0) (by simp) hAr j (-1000000000000000)
      have em : ([mkRow x.length fun i => if i < j then (-1000000000000000 : Int) else 0] : List (List Int)).set 0 ((row [mkRow x.length fun i => if i < j then (-1000000000000000 : Int) else 0] 0).set j (-1000000000000000)) = [mkRow x.length fun i => if i < j + 1 then (-1000000000000000 : Int) else 0] := by
        show [(mkRow x.length fun i => if i < j then (-1000000000000000 : Int) else 0).set j (-1000000000000000)] = _
        rw [fill_set hlt]
      rw [em] at hM'
      have hE' := hE.set (p := ⟨r, j, none⟩) hBr (.int .i64 (-1000000000000000))
      have HM' := Lib.hid (And.intro hM' hE')
      clear hce hfe hM hM' hE' em
      go_wp2
      go_roundw
      case rel => exact ⟨j + 1, by omega, by go_num, HM'.out.2, HM'.out.1⟩
      case measure => simp [intOf]; omega
    · obtain rfl : x.length = j := by omega
      have c2 := hce u (by rw [E0.out]; exact hu)
      have f2 := hfe u
      have hM' := hM.set (i := 0) (by simp) hAr u 0
      have em : ([mkRow x.length fun i => if i < x.length then (-1000000000000000 : Int) else 0] : List (List Int)).set 0 ((row [mkRow x.length fun i => if i < x.length then (-1000000000000000 : Int) else 0] 0).set u 0) = leftL (ent x) x.length u 0 := by
        show [(mkRow x.length fun i => if i < x.length then (-1000000000000000 : Int) else 0).set u 0] = _
        rw [unit_set hu]; rfl
      rw [em] at hM'
      have hE' := hE.set (p := ⟨r, u, none⟩) hBr (.int .i64 0)
      have hO' : OwnM (wr.setCell ⟨r, u, none⟩ (.int .i64 0)) w.heap.size (.slice (some ⟨W1.heap.size, 0, none⟩) 1 1) (leftL (ent x) x.length u 0) := .inr ⟨_, _, A, C, rfl, hM'⟩
      have HO' := Lib.hid (And.intro hO' hE')
      have hu' : (u : Int) < (x.length : Int) := by omega
      have hf' : (f : Int) < (x.length : Int) := by omega
      clear hce hfe hM hM' hE' em hO' hE
      obtain ⟨W3, hW3⟩ : ∃ W3, wr.setCell ⟨r, u, none⟩ (.int .i64 0) = W3 := ⟨_, rfl⟩
      rw [hW3] at HO'
      obtain ⟨hx, hs, rx, hA⟩ := HX.out
      obtain ⟨ps, os, hps⟩ := hs.base (by rw [starM_len]; omega)
      subst hps
      obtain ⟨q, o2, cq, d1, dd, -⟩ := hs.hdr (starM_rect x x.length) hu (by omega)
      have d2 := dd f hf
      have es : ent (starM x x.length) u f = fwS (ent x) x.length u f := mkMat_ent hu hf
      rw [es] at d2
      have HX2 := Lib.hid (And.intro hx (And.intro rx hA))
      clear hx hs rx hA dd es HX E0 hAr hBr hrs hj hlt
      rw [HSv.out] at d2
      have HKl := HK.out.1
      clear HSv
      go_wp2
      clear c1 c2 f2 hW3
      go_loopg [10] (K + 1) (fun gg s wr => ∃ (k c : Nat) (ad : Option Addr), s = .slice ad (k + 1) c ∧ k ≤ K ∧ k + gg = K + 1 ∧ Ext w wr ∧ OwnM wr w.heap.size (.slice ad (k + 1) c) (leftL (ent x) x.length u k))
      case atStart => exact ⟨0, 1, _, rfl, Nat.zero_le _, by omega, HO'.out.2, HO'.out.1⟩
      case round =>
        obtain ⟨k, c, ad, rfl, hkK, hgg, hE, hO⟩ := hrel
        clear HO'
        obtain ⟨g2, A2, C2, rfl, hM⟩ := hO.open (by rw [leftL_len]; omega)
        have c1 := hM.cell (i := k) (by rw [leftL_len]; omega)
        obtain ⟨r2, hAr2, hBr2, hrs2, hce, hfe⟩ := hM.addr (i := k) (by rw [leftL_len]; omega) (by rw [leftL_row (by omega), mkRow_len]; omega)
        rw [leftL_row (by omega), mkRow_len, hAr2] at c1
        have hIr := hM.own k (by rw [leftL_len]; omega)
        rw [leftL_row (by omega), mkRow_len, hAr2] at hIr
        have c2 := hce f (by rw [leftL_row (by omega), mkRow_len]; omega)
        rw [leftL_ent (by omega) hf] at c2
        replace d1 := hE.cell d1
        replace d2 := hE.cell d2
        have el : ((k + 1 : Nat) : Int) - 1 = (k : Int) := by omega
        have HO := Lib.hid (And.intro hO (And.intro hIr hE))
        have hkl : (k : Int) < ((k + 1 : Nat) : Int) := by omega
        clear hce hfe hM hAr2 hIr hO hE
        by_cases hk : lk (ent x) x.length u k f = S
        · have hkE : k = K := by
            rcases Nat.lt_or_ge k K with h | h
            · exact absurd hk (HK.out.2.2 k h)
            · omega
          have hne' : (lk (ent x) x.length u k f != S) = false := by simpa using hk
          subst hkE
          generalize hz : lk (ent x) x.length u k f = z at *
          clear hk
          have hzS : z = S := HK.out.2.1
          have Hz := Lib.hid (And.intro hz hzS)
          clear hz hzS
          go_wp2_with fail
          go_big_quiet (fail)
          have hEq : Ext wr (wr.drewN nq) := Qt.ext ⟨nq, rfl⟩
          obtain ⟨hO, -, hE⟩ := HO.out
          have hOd := hO.ext hEq
          have hEd := hE.trans hEq
          generalize wr.drewN nq = W5 at *
          obtain ⟨g5, A5, C5, e5, hM5⟩ := hOd.open (by rw [leftL_len]; omega)
          have e5' : g2 = g5 := by simpa using e5
          subst e5'
          have hleft : ∀ j, j < k + 1 → ∃ rj cj, W5.cell? ⟨g2, j, none⟩ = some (.slice (some ⟨rj, 0, none⟩) x.length cj) ∧ ∀ v, v < x.length → W5.cell? ⟨rj, v, none⟩ = some (.int .i64 (lk (ent x) x.length u j v)) := fun j hj => by
            have c := hM5.cell (i := j) (by rw [leftL_len]; exact hj)
            obtain ⟨rj, hAj, -, -, hcj, -⟩ := hM5.addr (i := j) (by rw [leftL_len]; exact hj) (by rw [leftL_row hj, mkRow_len]; omega)
            rw [leftL_row hj, mkRow_len, hAj] at c
            refine ⟨rj, C5 j, c, fun v hv => ?_⟩
            have := hcj v (by rw [leftL_row hj, mkRow_len]; exact hv)
            rw [leftL_ent hj hv] at this
            exact this
          have HLeft := Lib.hid hleft
          obtain ⟨hx, rx, hA⟩ := HX2.out
          replace hx := hx.mono hEd
          obtain ⟨pa, oa, hpa⟩ := hx.base (by omega)
          have hxc := fun z (hz : z < x.length) => (by rw [hpa] at hx; exact hx.hdr rx hz (by omega) : ∃ q o2 c, W5.cell? ⟨pa, oa + z, none⟩ = some (.slice (some ⟨q, o2, none⟩) x.length c) ∧ (∀ j, j < x.length → W5.cell? ⟨q, o2 + j, none⟩ = some (.int .i64 (ent x z j))) ∧ IntsAt W5 (some ⟨q, o2, none⟩) (row x z))
          subst hpa
          have HXc := Lib.hid hxc
          have hO6 : OwnI (W5.alloc (.cells #[.int .i64 (f : Int)] 2)) W5.heap.size (.slice (some ⟨W5.heap.size, 0, none⟩) 1 1) [(f : Int)] := World.ownsRow_lit W5 #[.int .i64 (f : Int)] 1 (Nat.le_refl _) (by decide) rfl
          have hE6 := (Ext.refl W5).alloc (.cells #[.int .i64 (f : Int)] 2)
          have h0 : Hid (lk (ent x) x.length u k f ≠ -1000000000000000 ∧ [(f : Int)] ++ tailL (ent x) x.length u k f = (f : Int) :: tailL (ent x) x.length u k f) := ⟨by rw [Hz.out.1, Hz.out.2]; exact hne, rfl⟩
          have HA := Lib.hid hA
          have HEd := Lib.hid hEd
          clear hleft hx rx hA hxc hO hE hOd hEd e5 hM5 HO c1 c2 d1 d2 hEq
          go_wp2
          go_loopw [12, 13] (fun s i wr => ∃ (j v c : Nat) (ad : Option Addr) (xs : List Int), i = .int .i64 (j : Int) ∧ s = .slice ad xs.length c ∧ j ≤ k ∧ v < x.length ∧ xs.length + j = k + 1 ∧ nth xs (xs.length - 1) = (v : Int) ∧ Hid (lk (ent x) x.length u j v ≠ -1000000000000000 ∧ xs ++ tailL (ent x) x.length u j v = (f : Int) :: tailL (ent x) x.length u k f) ∧ OwnI wr W5.heap.size (.slice ad xs.length c) xs ∧ Ext W5 wr) (fun _ i _ => (intOf i).toNat)
          case atStart => exact ⟨k, f, 1, _, [(f : Int)], rfl, rfl, Nat.le_refl _, hf, by simp; omega, rfl, h0, hO6, hE6⟩
          case round =>
            obtain ⟨j, v, c9, ad, xs, rfl, rfl, hjk, hv, hxj, hlast, hI, hO, hE⟩ := hrel
            clear hO6 hE6 h0
            by_cases hj : 0 < j
            · obtain ⟨j, rfl⟩ : ∃ j', j = j' + 1 := ⟨j - 1, by omega⟩
              obtain ⟨g9, rfl, hB9, hs9, hc9, -⟩ := hO.open (by omega)
              have cl := hc9 (xs.length - 1) (by omega)
              rw [hlast] at cl
              have el : ((xs.length : Nat) : Int) - 1 = ((xs.length - 1 : Nat) : Int) := by omega
              have hxl : xs.length - 1 < xs.length := by omega
              obtain ⟨n1, n2, n3⟩ := next_ex hI.out.1
              have HN := Lib.hid (And.intro n2 n3)
              have hI2 : xs ++ [(nextN (ent x) x.length u j v : Int)] ++ tailL (ent x) x.length u j (nextN (ent x) x.length u j v) = (f : Int) :: tailL (ent x) x.length u k f := by
                rw [← hI.out.2, List.append_assoc]; rfl
              have HI2 := Lib.hid hI2
              have HO := Lib.hid hO
              generalize nextN (ent x) x.length u j v = nx at *
              clear n2 n3 hI2 hc9 hlast hO hI
              have hjn : (j : Int) ≤ 10 := by have := HK.out.1; omega
              generalize wr = wo at *
              go_wp2
              clear cl el
              go_loopw [12, 85] (fun s i w2 => ∃ z : Nat, i = .int .i64 (z : Int) ∧ s = .slice (some ⟨g9, 0, none⟩) xs.length c9 ∧ z ≤ nx ∧ Qt wo w2) (fun _ i _ => x.length - (intOf i).toNat)
              case atStart => exact ⟨0, rfl, rfl, Nat.zero_le _, Qt.refl _⟩
              case round =>
                obtain ⟨z, rfl, rfl, hzn, hq⟩ := hrel
                have hzl : z < x.length := by omega
                have hEr := hE.trans hq.ext
                obtain ⟨qx, ox, cx, d1, dd, -⟩ := HXc.out z hzl
                have d2 := hEr.cell (dd v hv)
                replace d1 := hEr.cell d1
                obtain ⟨r1, l1, d3, dl⟩ := HLeft.out j (by omega)
                have d4 := hEr.cell (dl z hzl)
                replace d3 := hEr.cell d3
                obtain ⟨r3, l3, d5, dl3⟩ := HLeft.out (j + 1) (by omega)
                have d6 := hEr.cell (dl3 v hv)
                replace d5 := hEr.cell d5
                have z1 : (0 : Int) ≤ (j : Int) := by omega
                have z2 : (j : Int) < (k : Int) + 1 := by omega
                have z3 : (j : Int) + 1 < (k : Int) + 1 := by omega
                have z4 : IntKind.i64.wrap (j : Int) = (j : Int) := IntWalk.i64_in _ (by omega)
                have z5 : j < k := by omega
                have hb1 := HA.out.bd z v
                have hb2 := lk_bd HA.out (u := u) j z
                by_cases hz : z = nx
                · subst hz
                  obtain ⟨b1, b2, b3⟩ := nextB_iff.1 HN.out.1
                  have b1' : (ent x z v != -1000000000000000) = true := by simpa using b1
                  have b2' : (lk (ent x) x.length u j z != -1000000000000000) = true := by simpa using b2
                  have b3' : (ent x z v + lk (ent x) x.length u j z == lk (ent x) x.length u (j + 1) v) = true := by simpa using b3
                  have hw : IntKind.i64.wrap (ent x z v + lk (ent x) x.length u j z) = ent x z v + lk (ent x) x.length u j z := IntWalk.i64_in _ (by have := hb1 b1; omega)
                  have hn2 : Hid (lk (ent x) x.length u j z ≠ -1000000000000000) := b2
                  clear dd dl dl3 b1 b2 b3 hb1 hb2
                  generalize ent x z v = ax at *
                  generalize hlz : lk (ent x) x.length u j z = lz at d4 b2' b3' hw
                  generalize lk (ent x) x.length u (j + 1) v = lv at *
                  clear hlz
                  go_wp2_with fail
                  go_big_quiet (fail)
                  have hq2 : Qt wo (wr.drewN nq) := hq.drewN nq
                  generalize wr.drewN nq = w3 at *
                  clear d1 d2 d3 d4 d5 d6
                  have hO3 := HO.out.ext hq2.ext
                  have hE3 := hE.trans hq2.ext
                  have hll : xs.length ≤ 1000000000 := by have := HK.out.1; omega
                  have hsz : W5.heap.size ≤ (w3.alloc (.cells #[.int .i64 (z : Int)] 2)).heap.size := by have := hE3.size; simp; omega
                  go_wp2_with (at_builtin; refine app_i rfl _ _ rfl W5.heap.size _ _ rfl (hO3.ext ((Ext.refl w3).alloc _)) ⟨w3.heap.size, 0, none⟩ 1 (z : Int) rfl (cell_one _ _ _) hll hsz ?_)
                  intro v' w4 hO4 hg4
                  have hE4 := (hE3.alloc (.cells #[.int .i64 (z : Int)] 2)).grown hg4 (fun k hk => hO3.base k hk)
                  obtain ⟨a4, c4, rfl, -⟩ := hO4.at
                  have hl4 : (xs ++ [(z : Int)]).length = xs.length + 1 := by simp
                  have hnl : nth (xs ++ [(z : Int)]) (xs.length + 1 - 1) = (z : Int) := by rw [Nat.add_sub_cancel, nth_app2]
                  have HO4 := Lib.hid hO4
                  have HE4 := Lib.hid (And.intro hE4 hnl)
                  rw [hl4]
                  clear hO3 hE3 hO4 hg4 hE4 hnl hq2
                  go_wp2
                  go_roundw
                  case rel => exact ⟨j, z, c4, a4, xs ++ [(z : Int)], by go_num, by rw [hl4], by omega, hzl, by rw [hl4]; omega, by rw [hl4]; exact HE4.out.2, ⟨hn2.out, HI2.out⟩, HO4.out, HE4.out.1⟩
                  case measure => simp [intOf]
                · have hzlt : z < nx := by omega
                  have hN := HN.out.2 z hzlt
                  by_cases b1 : ent x z v = -1000000000000000
                  · have b1' : (ent x z v != -1000000000000000) = false := by simpa using b1
                    clear dd dl dl3 hb1 hb2 b1
                    generalize ent x z v = ax at *
                    go_wp2_with fail
                    go_big_quiet (fail)
                    go_wp2
                    go_roundw
                    case rel => exact ⟨z + 1, by go_num, rfl, by omega, hq.drewN nq⟩
                    case measure => simp [intOf]; omega
                  · have b1' : (ent x z v != -1000000000000000) = true := by simpa using b1
                    by_cases b2 : lk (ent x) x.length u j z = -1000000000000000
                    · have b2' : (lk (ent x) x.length u j z != -1000000000000000) = false := by simpa using b2
                      clear dd dl dl3 hb1 hb2 b1 b2 hN
                      generalize ent x z v = ax at *
                      generalize lk (ent x) x.length u j z = lz at *
                      go_wp2_with fail
                      go_big_quiet (fail)
                      go_wp2
                      go_roundw
                      case rel => exact ⟨z + 1, by go_num, rfl, by omega, hq.drewN nq⟩
                      case measure => simp [intOf]; omega
                    · have b2' : (lk (ent x) x.length u j z != -1000000000000000) = true := by simpa using b2
                      have b3' : (ent x z v + lk (ent x) x.length u j z == lk (ent x) x.length u (j + 1) v) = false := by
                        rw [beq_eq_false_iff_ne]; intro e
                        rw [nextB_iff.2 ⟨b1, b2, e⟩] at hN; cases hN
                      have hw : IntKind.i64.wrap (ent x z v + lk (ent x) x.length u j z) = ent x z v + lk (ent x) x.length u j z := IntWalk.i64_in _ (by have := hb1 b1; omega)
                      clear dd dl dl3 hb1 hb2 b1 b2 hN
                      generalize ent x z v = ax at *
                      generalize lk (ent x) x.length u j z = lz at *
                      generalize lk (ent x) x.length u (j + 1) v = lv at *
                      go_wp2_with fail
                      go_big_quiet (fail)
                      go_wp2
                      go_roundw
                      case rel => exact ⟨z + 1, by go_num, rfl, by omega, hq.drewN nq⟩
                      case measure => simp [intOf]; omega
            · obtain rfl : j = 0 := by omega
              have hfin : xs = (f : Int) :: tailL (ent x) x.length u k f := by rw [← hI.out.2]; simp [tailL]
              have hEw := HEd.out.trans hE
              have hOw := hO.mono HEd.out.size
              clear hI hO
              subst hfin
              go_wp2
              go_ret
              exact ⟨ad, c9, rfl, hOw, hEw⟩
        · have hkE : k < K := by
            rcases Nat.lt_or_ge k K with h | h
            · exact h
            · have : k = K := by omega
              subst this; exact absurd HK.out.2.1 hk
          have hne' : (lk (ent x) x.length u k f != S) = true := by simpa using hk
          generalize lk (ent x) x.length u k f = z at *
          clear hk
          go_wp2_with fail
          go_big_quiet (fail)
          have c1' : (wr.drewN nq).cell? ⟨g2, k, none⟩ = some (.slice (some ⟨r2, 0, none⟩) x.length (C2 k)) := c1
          have hEq : Ext wr (wr.drewN nq) := Qt.ext ⟨nq, rfl⟩
          obtain ⟨hO, hIr, hE⟩ := HO.out
          have hOd := hO.ext hEq
          have hId := hIr.ext hEq
          have hEd := hE.trans hEq
          generalize wr.drewN nq = W5 at *
          have htr := fun w' (q : Ext W5 w') => transposed_c a ca x.length x w' (HX2.out.1.mono (hEd.trans q)) HX2.out.2.1 (by omega) (by omega) (by omega)
          have hap := fun (at' : Option Addr) (kt : Nat) w' (q : Ext W5 w') (ht : MatAt w' at' (mkMat x.length x.length fun i j => ent x j i)) =>
            timesVector_c at' (some ⟨r2, 0, none⟩) kt (C2 k) x.length x.length (mkMat x.length x.length fun i j => ent x j i) (mkRow x.length (lk (ent x) x.length u k)) w' ht (hId.ext q).ints (rect_mk _ _ _) (mkRow_len _ _) (by omega) (by omega) (by omega)
              (ebd_mk (by omega) fun i j hi hj => by
                by_cases e : ent x j i = -1000000000000000
                · rw [e]; omega
                · have := HX2.out.2.2.bd j i e; omega) (lk_vbd HX2.out.2.2 u (by omega))
          simp only [mkMat_len, mkRow_len] at htr hap
          rw [lk_step] at hap
          have HTr := Lib.hid htr
          have HAp := Lib.hid hap
          have hsuc := leftL_succ (ent x) x.length u k
          have HSuc := Lib.hid hsuc
          have hrl : (mkRow x.length (lk (ent x) x.length u (k + 1))).length = x.length := mkRow_len _ _
          have hll : (leftL (ent x) x.length u k).length ≤ 1000000000 := by rw [leftL_len]; omega
          have hsz : w.heap.size ≤ W5.heap.size := hEd.size
          clear htr hap hsuc HO hO hIr hId c1 c2 d1 d2
          generalize mkRow x.length (lk (ent x) x.length u (k + 1)) = nr at *
          have z1 : (0 : Int) ≤ (k : Int) := by omega
          have z2 : (k : Int) < (k : Int) + 1 := by omega
          have z3 : (k : Int) ≤ (k : Int) + 1 := by omega
          have z4 : IntKind.i64.wrap (k : Int) = (k : Int) := IntWalk.i64_in _ (by omega)
          go_upto_region 10 with fail
          go_region_law ((first
              | (go_simp; go_at_call 139; refine (HTr.out _ (Ext.refl W5).drew).mono ?_; rintro e w6 ⟨a6, c6, rfl, hO6, hE6⟩; rw [mkMat_len] at hO6 ⊢; have c1x := hE6.cell (cell_drew' c1'); have hW6 := Ext.trans (Ext.refl W5).drew hE6)
              | (go_simp; go_at_call 91; refine (HAp.out _ _ _ hW6 hO6.mat).mono ?_; rintro e w7 ⟨a7, c7, rfl, hO7, hE7⟩; have hO9 := OwnI.mono (B' := W5.heap.size) hO7 (Ext.size hW6); have hW7 := Ext.trans hW6 hE7)
              | (refine step_app_m rfl _ _ rfl w.heap.size _ _ rfl hOd (Ext.alloc hW7 _) _ 1 a7 c7 nr rfl (by rw [hrl]; exact cell_one _ _ _) (hO9.ext ((Ext.refl w7).alloc _)) hll hsz ?_; intro v' w' hO8 hgx)))
          all_goals
            have hEe : Ext w w' := Ext.grown (Ext.alloc (Ext.trans hEd hW7) _) hgx (fun b hb => hOd.base b hb)
            rw [← HSuc.out] at hO8
            obtain ⟨a8, c8, rfl, -⟩ := hO8.at
            rw [leftL_len] at hO8 ⊢
            have HO8 := Lib.hid (And.intro hO8 hEe)
            clear hO8 hgx
            simp only [Act.put, List.getElem_toArray, List.getElem_cons_succ, List.getElem_cons_zero, List.setIfInBounds_toArray, List.set_cons_succ, List.set_cons_zero]
            go_wp2
            go_roundg (gk - 1)
            case measure => omega
            case rel => exact ⟨k + 1, c8, a8, rfl, hkE, by omega, HO8.out.2, HO8.out.1⟩
set_option maxHeartbeats 1000000 in
theorem implHp_c (a : Option Addr) (ca : Nat) (x : List (List Int)) (f t : Int) (w : World) (hx : MatAt w a x) :
    Calls Try.prog 36 #[.slice a x.length ca, .int .i64 f, .int .i64 t] w (GivesI2 w (hpV x f t).1 (hpV x f t).2) := by
  have hxl := hx.len
  rw [show (GivesI2 w (hpV x f t).1 (hpV x f t).2) = fun e w' => ∃ a cap, e = .returned (.tuple #[.slice a (hpV x f t).1.length cap, .int .i64 (hpV x f t).2]) ∧ OwnI w' w.heap.size (.slice a (hpV x f t).1.length cap) (hpV x f t).1 ∧ Ext w w' from rfl]
  cases hs : isSq x
  · have e : hpV x f t = ([], 1) := by unfold hpV; rw [hs]; rfl
    rw [e]; clear e
    go_enter Try.func36, Try.ntmps36
    go_wp2_with fail
    refine (asB hs (isSquare_c _ _ _ _ hx)).mono ?_
    rintro e w1 ⟨rfl, hE1⟩
    go_wp2
    go_ret2
    exact ⟨none, 0, rfl, OwnI.nil _ _, hE1⟩
  cases hf : inR f 0 ((x.length : Int) - 1)
  · have e : hpV x f t = ([], 2) := by unfold hpV; rw [hs, hf]; rfl
    rw [e]; clear e
    go_enter Try.func36, Try.ntmps36
    go_wp2_with fail
    refine (asB hs (isSquare_c _ _ _ _ hx)).mono ?_
    rintro e w1 ⟨rfl, hE1⟩
    go_wp2_with fail
    refine (asB hf (isNode_c _ _ _ _ _ hxl)).mono ?_
    rintro e w2 ⟨rfl, rfl⟩
    go_wp2
    go_ret2
    exact ⟨none, 0, rfl, OwnI.nil _ _, hE1⟩
  cases ht : inR t 0 ((x.length : Int) - 1)
  · have e : hpV x f t = ([], 2) := by unfold hpV; rw [hs, hf, ht]; rfl
    rw [e]; clear e
    go_enter Try.func36, Try.ntmps36
    go_wp2_with fail
    refine (asB hs (isSquare_c _ _ _ _ hx)).mono ?_
    rintro e w1 ⟨rfl, hE1⟩
    go_wp2_with fail
    refine (asB hf (isNode_c _ _ _ _ _ hxl)).mono ?_
    rintro e w2 ⟨rfl, rfl⟩
    go_wp2_with fail
    refine (asB ht (isNode_c _ _ _ _ _ hxl)).mono ?_
    rintro e w2 ⟨rfl, rfl⟩
    go_wp2
    go_ret2
    exact ⟨none, 0, rfl, OwnI.nil _ _, hE1⟩
  obtain ⟨rx, hl1, hl2⟩ := isSq_rect hs
  have hA := isSq_abd hs
  obtain ⟨f1, f2⟩ := inR_iff.1 hf
  obtain ⟨t1, t2⟩ := inR_iff.1 ht
  obtain ⟨fn, rfl⟩ := Int.eq_ofNat_of_zero_le f1
  obtain ⟨u, rfl⟩ := Int.eq_ofNat_of_zero_le t1
  have hfn : fn < x.length := by omega
  have hun : u < x.length := by omega
  have hst := fun w' (h : Ext w w') => starOf_c a ca x x.length _ w' (hx.mono h) rx hl1 hl2 hA
  have HSt := Lib.hid hst
  clear hst
  cases hb : starB (ent x) x.length
  · have e : hpV x (fn : Int) (u : Int) = ([], 5) := by unfold hpV; rw [hs, hf, ht, hb]; rfl
    rw [e]; clear e
    have Hb := Lib.hid hb
    clear hb hA rx f1 f2 t1 t2
    go_enter Try.func36, Try.ntmps36
    go_wp2_with fail
    refine (asB hs (isSquare_c _ _ _ _ hx)).mono ?_
    rintro e w1 ⟨rfl, hE1⟩
    go_wp2_with fail
    refine (asB hf (isNode_c _ _ _ _ _ hxl)).mono ?_
    rintro e w2 ⟨rfl, rfl⟩
    go_wp2_with fail
    refine (asB ht (isNode_c _ _ _ _ _ hxl)).mono ?_
    rintro e w2 ⟨rfl, rfl⟩
    go_wp2_with fail
    refine (HSt.out _ hE1).mono ?_
    rintro e w3 ⟨hE3, -, hg⟩
    obtain ⟨a3, k3, c3, rfl⟩ := hg Hb.out
    clear hg
    go_wp2
    go_ret2
    exact ⟨none, 0, rfl, OwnI.nil _ _, hE1.trans hE3⟩
  have hstar := fun w' (s : Option Addr) (cs : Nat) (h : MatAt w' a x) (h' : MatAt w' s (starM x x.length)) hne => heaviestPath_c a s ca cs x fn u w' h h' hs hb hfn hun hne
  have HPath := Lib.hid hstar
  clear hstar
  have Hb := Lib.hid hb
  have es : ent (starM x x.length) u fn = fwS (ent x) x.length u fn := mkMat_ent hun hfn
  by_cases hne : fwS (ent x) x.length u fn = -1000000000000000
  · have e : hpV x (fn : Int) (u : Int) = ([], 4) := by unfold hpV; rw [hs, hf, ht, hb]; simp [hne]
    rw [e]; clear e
    rw [hne] at es
    have Es := Lib.hid es
    clear hb hA rx f1 f2 t1 t2 hne es
    go_enter Try.func36, Try.ntmps36
    go_wp2_with fail
    refine (asB hs (isSquare_c _ _ _ _ hx)).mono ?_
    rintro e w1 ⟨rfl, hE1⟩
    go_wp2_with fail
    refine (asB hf (isNode_c _ _ _ _ _ hxl)).mono ?_
    rintro e w2 ⟨rfl, rfl⟩
    go_wp2_with fail
    refine (asB ht (isNode_c _ _ _ _ _ hxl)).mono ?_
    rintro e w2 ⟨rfl, rfl⟩
    go_wp2_with fail
    refine (HSt.out _ hE1).mono ?_
    rintro e w3 ⟨hE3, hg, -⟩
    obtain ⟨a3, c3, rfl, hO3⟩ := hg Hb.out
    clear hg
    have hm := hO3.mat
    obtain ⟨ps, os, rfl⟩ := hm.base (by rw [starM_len]; omega)
    obtain ⟨q, o2, cq, d1, dd, -⟩ := hm.hdr (starM_rect x x.length) hun (by omega)
    have d2 := dd fn hfn
    rw [Es.out] at d2
    clear dd hm hO3
    go_wp2
    go_ret2
    exact ⟨none, 0, rfl, OwnI.nil _ _, hE1.trans hE3⟩
  · have e : hpV x (fn : Int) (u : Int) = ((fn : Int) :: tailL (ent x) x.length u (hpK (ent x) x.length u fn) fn, 0) := by unfold hpV; rw [hs, hf, ht, hb]; simp [hne]
    rw [e]; clear e
    have hP := fun w' (s : Option Addr) (cs : Nat) (h : MatAt w' a x) (h' : MatAt w' s (starM x x.length)) => HPath.out w' s cs h h' hne
    have HP := Lib.hid hP
    have hne' : (fwS (ent x) x.length u fn == -1000000000000000) = false := by simpa using hne
    generalize tailL (ent x) x.length u (hpK (ent x) x.length u fn) fn = tl at *
    have Es := Lib.hid es
    clear hb hA rx f1 f2 t1 t2 hne es hP HPath
    generalize fwS (ent x) x.length u fn = S at *
    go_enter Try.func36, Try.ntmps36
    go_wp2_with fail
    refine (asB hs (isSquare_c _ _ _ _ hx)).mono ?_
    rintro e w1 ⟨rfl, hE1⟩
    go_wp2_with fail
    refine (asB hf (isNode_c _ _ _ _ _ hxl)).mono ?_
    rintro e w2 ⟨rfl, rfl⟩
    go_wp2_with fail
    refine (asB ht (isNode_c _ _ _ _ _ hxl)).mono ?_
    rintro e w2 ⟨rfl, rfl⟩
    go_wp2_with fail
    refine (HSt.out _ hE1).mono ?_
    rintro e w3 ⟨hE3, hg, -⟩
    obtain ⟨a3, c3, rfl, hO3⟩ := hg Hb.out
    clear hg
    have hm := hO3.mat
    obtain ⟨ps, os, rfl⟩ := hm.base (by rw [starM_len]; omega)
    obtain ⟨q, o2, cq, d1, dd, -⟩ := hm.hdr (starM_rect x x.length) hun (by omega)
    have d2 := dd fn hfn
    rw [Es.out] at d2
    have Hm := Lib.hid hm
    have hE13 := hE1.trans hE3
    clear dd hm hO3
    go_wp2_with fail
    refine (HP.out _ _ _ (hx.mono hE13) Hm.out).mono ?_
    rintro e w4 ⟨a4, c4, rfl, hO4, hE4⟩
    have hO4' := hO4.mono hE13.size
    clear hO4
    go_wp2
    go_ret2
    exact ⟨a4, c4, rfl, hO4', hE13.trans hE4⟩
end Go.Proofs.Ytokhkpbebimohaa
