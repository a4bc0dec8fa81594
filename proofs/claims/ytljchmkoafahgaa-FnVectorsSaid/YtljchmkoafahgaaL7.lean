/- The walk of FnVectors. Condition: the code reads. -/
import Derived.Test.YtljchmkoafahgaaD5
import Derived.Test.YtljchmkoafahgaaGE
namespace Go.Proofs.Ytljchmkoafahgaa
set_option linter.unusedVariables false
set_option linter.unusedSimpArgs false
open Go.RowKit

theorem lit1v (w : World) (x : Int) : OwnI (w.alloc (.cells #[.int .i64 x] 2)) w.heap.size (.slice (some ⟨w.heap.size, 0, none⟩) 1 1) [x] :=
  World.ownsRow_lit w #[.int .i64 x] 1 (Nat.le_refl _) (by decide) rfl
/-- the matrix of one column -/
def colR (xs : List Int) : Nat → List (List Int)
  | 0 => []
  | k + 1 => colR xs k ++ [[nth xs k]]
theorem colR_len (xs : List Int) (k : Nat) : (colR xs k).length = k := by
  induction k with
  | zero => rfl
  | succ k ih => simp [colR, ih]
theorem colR_row (xs : List Int) {k i : Nat} (hi : i < k) : row (colR xs k) i = [nth xs i] := by
  induction k with
  | zero => omega
  | succ k ih =>
    have hl := colR_len xs k
    simp only [colR]
    unfold row
    by_cases e : i < k
    · rw [List.getD_eq_getElem?_getD, List.getElem?_append_left (by omega), ← List.getD_eq_getElem?_getD]
      exact ih e
    · obtain rfl : i = k := by omega
      rw [List.getD_eq_getElem?_getD, List.getElem?_append_right (by omega), hl]; simp
theorem colR_mk (xs : List Int) (k : Nat) : colR xs k = mkMat k 1 fun i _ => nth xs i := by
  have hr : Rect (colR xs k) k 1 := ⟨colR_len xs k, fun i hi => by rw [colR_row xs hi]; rfl⟩
  refine (rect_eq_mk hr fun i j hi hj => ?_)
  obtain rfl : j = 0 := by omega
  unfold ent; rw [colR_row xs hi]; rfl
theorem allV_all {m : Nat} {f : Nat → Int} : allV (mkRow m f) = true ↔ ∀ i, i < m → isVal (f i) = true := by
  rw [allV_iff]
  rw [mkRow_len]
  constructor
  · intro h i hi; have := h i hi; rwa [mkRow_nth hi] at this
  · intro h i hi; rw [mkRow_nth hi]; exact h i hi
theorem allM_one {m : Nat} {f : Nat → Nat → Int} : allM (mkMat m 1 f) = allV (mkRow m fun i => f i 0) := by
  rw [Bool.eq_iff_iff, allV_all]
  unfold allM
  rw [all_iff_row, mkMat_len]
  constructor
  · intro h i hi
    have h1 := h i hi
    rw [mkMat_row hi, allV_all] at h1
    exact h1 0 (by omega)
  · intro h i hi
    rw [mkMat_row hi, allV_all]
    intro j hj
    obtain rfl : j = 0 := by omega
    exact h i hi
/-- the product with a vector and that with a matrix of one column -/
theorem vec_facts {a : List (List Int)} {x : List Int} (h : (appV a x).2 ≠ 1) : (mulV a (colR x x.length)).2 = (appV a x).2 ∧
    ((appV a x).2 = 0 → (mulV a (colR x x.length)).1.length = (appV a x).1.length ∧ Rect (mulV a (colR x x.length)).1 (appV a x).1.length 1 ∧ ∀ i, i < (appV a x).1.length → ent (mulV a (colR x x.length)).1 i 0 = nth (appV a x).1 i) := by
  have h1 : (isMat a && isVec x) = true := by
    cases e : isMat a && isVec x
    · unfold appV at h; rw [e] at h; simp at h
    · rfl
  rw [Bool.and_eq_true] at h1
  have hv := h1.2
  unfold isVec at hv
  rw [Bool.and_eq_true] at hv
  have hl := inR_iff.1 hv.1
  have hM : isMat (colR x x.length) = true := by
    rw [colR_mk, isMat_mk _ (by omega) (by omega) (by omega) (by omega), allM_one]
    rw [allV_all]
    intro i hi
    exact allV_iff.1 hv.2 i hi
  have hr1 : (row (colR x x.length) 0).length = 1 := by rw [colR_row x (by omega)]; rfl
  have hE : ∀ i, i < a.length → mulE x.length a (colR x x.length) i 0 = appF x.length a x i := fun i _ => by
    unfold mulE appF
    refine mx_congr fun k hk => ?_
    unfold ent
    rw [colR_row x hk]; rfl
  have hall : allM (mkMat a.length 1 (mulE x.length a (colR x x.length))) = allV (mkRow a.length (appF x.length a x)) := by
    rw [allM_one]
    congr 1
    exact list_ext_nth (by rw [mkRow_len, mkRow_len]) fun i hi => by
      rw [mkRow_len] at hi
      rw [mkRow_nth hi, mkRow_nth hi]; exact hE i hi
  unfold mulV appV
  rw [h1.1, hM, h1.2, hr1, colR_len]
  simp only [Bool.and_self, if_true]
  by_cases hs : (row a 0).length = x.length
  · rw [if_pos hs, if_pos hs]
    unfold chkM chkX
    rw [hall]
    by_cases hc : allV (mkRow a.length (appF x.length a x)) = true
    · rw [if_pos hc, if_pos hc]
      refine ⟨rfl, fun _ => ⟨by rw [mkMat_len, mkRow_len], ?_, fun i hi => ?_⟩⟩
      · simp only [mkRow_len]; exact rect_mk _ _ _
      · rw [mkRow_len] at hi
        rw [mkMat_ent hi (by omega), mkRow_nth hi]; exact hE i hi
    · rw [if_neg hc, if_neg hc]
      exact ⟨rfl, fun h => by simp at h⟩
  · rw [if_neg hs, if_neg hs]
    exact ⟨rfl, fun h => by simp at h⟩

set_option maxRecDepth 100000 in
set_option maxHeartbeats 2000000 in
theorem FnVectors_walk (ca : Option Addr) (cc : Nat) (bs : List Int) (w : World) (h : CodeAt w ca bs) :
    Calls Try.prog 11 #[.slice ca bs.length cc] w fun e w' => e = .returned (.bool true) ∧ Ext w w' := by
  go_enter Try.func11, Try.ntmps11
  go_wp2_with fail
  refine (big_c _ _ _ _ (by have := h.1; omega)).mono ?_
  rintro e w' ⟨t, rfl, rfl⟩
  cases t
  · go_wp2_with fail
    refine (DrawTimesVector_c _ _ _ _ h).mono ?_
    rintro e w1 ⟨aa, ka, a, av, kv, x, rfl, hOa, hla, -, hOx, hlx, hE1⟩
    have HA := Lib.hid hOa.mat
    have HX := Lib.hid hOx.ints
    have hxl := hOx.ints.len
    clear hOa hOx
    have hi := implApp_c aa av ka kv a x w1 HA.out HX.out
    have hs := fun w' (q : Ext w1 w') => specApp_c aa av ka kv a x w' (HA.out.mono q) (HX.out.mono q)
    have hf := fun h => vec_facts (a := a) (x := x) h
    have hm := fun (ac : Option Addr) (kc : Nat) w' (q : Ext w1 w') (hc : MatAt w' ac (colR x x.length)) => implMul_c aa ac ka kc a (colR x x.length) w' (HA.out.mono q) hc
    rw [colR_len] at hm
    generalize appV a x = V at *
    generalize mulV a (colR x x.length) = Z at *
    have HI := Lib.hid hi
    have HS := Lib.hid hs
    have HF := Lib.hid hf
    have HM := Lib.hid hm
    clear hi hs hf hm
    go_wp2_with fail
    refine HI.out.mono ?_
    rintro e w2 ⟨ay, ky, rfl, hOy, hE2⟩
    go_wp2_with fail
    refine (HS.out _ hE2).mono ?_
    rintro e w3 ⟨as', ks, rfl, hOs, hE3⟩
    have HY := Lib.hid (hOy.ext hE3).ints
    have HSp := Lib.hid hOs.ints
    have hyl := (hOy.ext hE3).ints.len
    have hEw := hE2.trans hE3
    clear hOy hOs
    go_wp2_with fail
    refine (asB (c := true) (by simp) (likeInts_c ay as' ky ks V.1 V.1 _ HY.out HSp.out)).mono ?_
    rintro e w4 ⟨rfl, hq4⟩
    replace hEw := hEw.qt hq4
    by_cases hc1 : V.2 = 1
    · have hc1' : (V.2 == 1) = true := by rw [hc1]; rfl
      clear hc1
      go_wp2
      go_ret
      exact ⟨rfl, hE1.trans hEw⟩
    · have hc1' : (V.2 == 1) = false := by rw [beq_eq_false_iff_ne]; exact hc1
      have HF2 := Lib.hid (HF.out hc1)
      have HY4 := Lib.hid (HY.out.qt hq4)
      clear hc1
      have hO0 := OwnM.empty w4 w4.heap.size (Nat.le_refl _)
      have hE0 := (Ext.refl w4).alloc (.cells #[] 32)
      go_wp2
      go_loopw [9, 10] (fun s i wr => ∃ (k : Nat), k ≤ x.length ∧ i = .int .i64 k ∧ Ext w4 wr ∧ OwnM wr w4.heap.size s (colR x k)) (fun _ i _ => x.length - (intOf i).toNat)
      case atStart => exact ⟨0, Nat.zero_le _, rfl, hE0, hO0⟩
      case round =>
        obtain ⟨k, hk, rfl, hE, hO⟩ := hrel
        clear hO0 hE0
        by_cases hlt : k < x.length
        · have hxi := HX.out.mono (hEw.trans hE)
          obtain ⟨p, o, rfl⟩ := hxi.base (by omega)
          have d1 := hxi.cell hlt
          have hst : colR x (k + 1) = colR x k ++ [[nth x k]] := rfl
          have hln : (colR x k).length ≤ 1000000000 := by rw [colR_len]; omega
          clear hxi
          generalize nth x k = z at *
          have Hst := Lib.hid hst
          have hr7 := lit1v wr z
          have hE7 := (Ext.refl wr).alloc (.cells #[.int .i64 z] 2)
          have hE8 := hE7.alloc (.cells #[.slice (some ⟨wr.heap.size, 0, none⟩) 1 1] 32)
          have hr8 := hr7.ext ((Ext.refl _).alloc (.cells #[.slice (some ⟨wr.heap.size, 0, none⟩) 1 1] 32))
          have hc9 : ((wr.alloc (.cells #[.int .i64 z] 2)).alloc (.cells #[.slice (some ⟨wr.heap.size, 0, none⟩) 1 1] 32)).cell? ⟨wr.heap.size + 1, 0, none⟩ = some (.slice (some ⟨wr.heap.size, 0, none⟩) [z].length 1) := by simp
          have hsz := hE.size
          clear hst
          go_wp2_with (at_builtin; refine app_m rfl _ _ rfl w4.heap.size _ _ rfl hO hE8 ⟨wr.heap.size + 1, 0, none⟩ 1 (some ⟨wr.heap.size, 0, none⟩) 1 [z] rfl hc9 hr8 hln hsz ?_)
          intro v' w' hO4 hg
          have hEg := Ext.grown (hE.trans hE8) hg (fun b hb => hO.base b hb)
          go_wp2
          go_roundw
          case rel => exact ⟨k + 1, by omega, by go_num, hEg, by rw [Hst.out]; exact hO4⟩
          case measure => simp [intOf]; omega
        · obtain rfl : x.length = k := by omega
          obtain ⟨ac, kc, rfl, hmc⟩ := hO.at
          have HC := Lib.hid (HM.out ac kc wr (hEw.trans hE) hmc)
          rw [colR_len]
          clear hO hmc
          go_wp2_with fail
          refine HC.out.mono ?_
          rintro e w5 ⟨az, kz, rfl, hOz, hE5⟩
          have e2 := HF2.out.1
          rw [e2]
          have hEt := (hEw.trans hE).trans hE5
          clear e2
          by_cases hc0 : V.2 = 0
          · have hc0' : (V.2 != 0) = false := by rw [hc0]; rfl
            obtain ⟨f1, f2, f3⟩ := HF2.out.2 hc0
            have HZ := Lib.hid (And.intro hOz.mat (And.intro f2 f3))
            have HY5 := Lib.hid (HY4.out.mono (hE.trans hE5))
            rw [f1]
            clear hc0 f1 f2 f3 hOz
            go_wp2
            go_loopw [13] (fun i wr => ∃ (j : Nat), j ≤ V.1.length ∧ i = .int .i64 j ∧ Qt w5 wr) (fun i _ => V.1.length - (intOf i).toNat)
            case atStart => exact ⟨0, Nat.zero_le _, rfl, Qt.refl _⟩
            case round =>
              obtain ⟨j, hj, rfl, hq⟩ := hrel
              by_cases hjl : j < V.1.length
              · have hz := HZ.out.1.qt hq
                obtain ⟨pz, oz, rfl⟩ := hz.base (by rw [HZ.out.2.1.1]; omega)
                obtain ⟨qz, rz, cz, g1, gg, -⟩ := hz.hdr HZ.out.2.1 hjl (by omega)
                have g2 := gg 0 (by omega)
                rw [Nat.add_zero, HZ.out.2.2 j hjl] at g2
                have hyi := HY5.out.qt hq
                obtain ⟨py, oy, rfl⟩ := hyi.base (by omega)
                have g3 := hyi.cell hjl
                have hzl := hz.len
                clear hz gg hyi
                generalize nth V.1 j = yj at *
                go_wp2_with fail
                go_big_quiet (fail)
                go_wp2
                go_roundw
                case rel => exact ⟨j + 1, by omega, by go_num, hq.drewN _⟩
                case measure => simp [intOf]; omega
              · obtain rfl : V.1.length = j := by omega
                go_wp2
                go_ret
                exact ⟨rfl, hE1.trans (hEt.qt hq)⟩
          · have hc0' : (V.2 != 0) = true := by simpa using hc0
            clear hc0
            go_wp2
            go_ret
            exact ⟨rfl, hE1.trans hEt⟩
  · go_wp2
    go_ret
    exact ⟨rfl, Ext.refl _⟩
end Go.Proofs.Ytljchmkoafahgaa
