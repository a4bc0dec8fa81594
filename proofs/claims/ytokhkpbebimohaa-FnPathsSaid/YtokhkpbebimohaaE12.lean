/- Contracts of cycleMean and l04Table, and of TableMean, the program's and the reference's. No condition. -/
import Derived.Test.YtokhkpbebimohaaE10
import Derived.Test.YtokhkpbebimohaaM14
import Derived.Deep.CutRange
namespace Go.Proofs.Ytokhkpbebimohaa
set_option linter.unusedVariables false
set_option linter.unusedSimpArgs false
open Go.RowKit

/-- the table's rows; the least quotient at a node; the greatest of these -/
def tabR (x : List (List Int)) (n : Nat) : Nat → List Int
  | 0 => List.replicate n 0
  | k + 1 => mkRow n (appF n x (tabR x n k))
def tabM (x : List (List Int)) (n : Nat) : Nat → List (List Int)
  | 0 => [tabR x n 0]
  | k + 1 => tabM x n k ++ [tabR x n (k + 1)]
theorem tabR_len (x : List (List Int)) (n k : Nat) : (tabR x n k).length = n := by
  cases k with
  | zero => simp [tabR]
  | succ k => simp only [tabR]; exact mkRow_len _ _
theorem tabM_len (x : List (List Int)) (n k : Nat) : (tabM x n k).length = k + 1 := by
  induction k with
  | zero => rfl
  | succ k ih => simp [tabM, ih]
theorem tabM_row (x : List (List Int)) (n k : Nat) {i : Nat} (hi : i ≤ k) : row (tabM x n k) i = tabR x n i := by
  induction k with
  | zero => obtain rfl : i = 0 := by omega
            rfl
  | succ k ih =>
    have hl := tabM_len x n k
    by_cases e : i ≤ k
    · rw [← ih e]; simp only [tabM]; unfold row; simp [List.getD_eq_getElem?_getD, List.getElem?_append_left (show i < (tabM x n k).length by omega)]
    · obtain rfl : i = k + 1 := by omega
      simp only [tabM]; unfold row
      rw [List.getD_eq_getElem?_getD, List.getElem?_append_right (by omega), hl]; simp
theorem tabM_rect (x : List (List Int)) (n k : Nat) : Rect (tabM x n k) (k + 1) n := ⟨tabM_len x n k, fun i hi => by rw [tabM_row x n k (by omega)]; exact tabR_len x n i⟩
def TB (n k : Nat) (z : Int) : Prop := z = -1000000000000000 ∨ (-1000000 * (k : Int) ≤ z ∧ z ≤ 1000000 * (k : Int))
theorem tabR_bd {x : List (List Int)} (hx : isSq x = true) (k : Nat) {i : Nat} (hi : i < x.length) : TB x.length k (nth (tabR x x.length k) i) := by
  induction k generalizing i with
  | zero => right; simp only [tabR]; rw [nth_replicate _ _ hi]; omega
  | succ k ih =>
    simp only [tabR]
    rw [mkRow_nth hi]
    unfold appF
    rcases (mx_spec (n := x.length) (f := fun t => times (ent x i t) (nth (tabR x x.length k) t))).1 with e | ⟨t, ht, e⟩
    · left; exact e
    · rw [e]
      have h2 := ih ht
      unfold times
      split
      · left; rfl
      · rename_i hne
        have h1 := isSq_ebd1 hx (i := i) (j := t) (fun h => hne (.inl h))
        rcases h2 with h2 | h2
        · exact absurd (.inr h2) hne
        · right; omega
theorem tabR_vbd {x : List (List Int)} (hx : isSq x = true) (k : Nat) (hk : k ≤ 100) : VBd 1000000000000000 (tabR x x.length k) := fun i => by
  by_cases hi : i < x.length
  · rcases tabR_bd hx k hi with h | h <;> omega
  · rw [nth_out (by rw [tabR_len]; omega)]; omega
def tabE (x : List (List Int)) (k v : Nat) : Int := nth (tabR x x.length k) v
def quoR (x : List (List Int)) (v k : Nat) : Int × Int := ratOf (tabE x x.length v - tabE x k v) ((x.length : Int) - (k : Int))
def leastO (x : List (List Int)) (v : Nat) : Nat → Option (Int × Int)
  | 0 => none
  | k + 1 => if tabE x k v = -1000000000000000 then leastO x v k else match leastO x v k with
    | none => some (quoR x v k)
    | some l => if cmpR (quoR x v k) l < 0 then some (quoR x v k) else some l
def bestO (x : List (List Int)) : Nat → Option (Int × Int)
  | 0 => none
  | v + 1 => if tabE x x.length v = -1000000000000000 then bestO x v else match bestO x v with
    | none => some ((leastO x v x.length).getD (0, 0))
    | some b => if 0 < cmpR ((leastO x v x.length).getD (0, 0)) b then some ((leastO x v x.length).getD (0, 0)) else some b
/-- small: both parts within a billion -/
def SmR (r : Int × Int) : Prop := (-1000000000 ≤ r.1 ∧ r.1 ≤ 1000000000) ∧ (-1000000000 ≤ r.2 ∧ r.2 ≤ 1000000000)
theorem ratOf_sm {a b : Int} (ha : -1000000000 ≤ a ∧ a ≤ 1000000000) (hb : 0 < b ∧ b ≤ 1000000000) : SmR (ratOf a b) := by
  have hs : sgnR a b = (a, b) := by unfold sgnR; rw [if_neg (by omega)]
  unfold SmR ratOf
  rw [hs]
  simp only
  have h1 := tdiv_bd (a := a) (b := gcdI a b) (A := 1000000000) ha
  have h2 := tdiv_bd (a := b) (b := gcdI a b) (A := 1000000000) (by omega)
  exact ⟨h1, h2⟩
theorem quoR_bd {x : List (List Int)} (hx : isSq x = true) {v k : Nat} (hv : v < x.length) (hk : k < x.length) (h1 : tabE x x.length v ≠ -1000000000000000) (h2 : tabE x k v ≠ -1000000000000000) :
    (-100000000 ≤ tabE x x.length v - tabE x k v ∧ tabE x x.length v - tabE x k v ≤ 100000000) ∧ SmR (quoR x v k) := by
  have hl := (isSq_rect hx).2.2
  have b1 : TB x.length x.length (tabE x x.length v) := tabR_bd hx _ hv
  have b2 : TB x.length k (tabE x k v) := tabR_bd hx _ hv
  have c1 := b1.resolve_left h1
  have c2 := b2.resolve_left h2
  have hb : -100000000 ≤ tabE x x.length v - tabE x k v ∧ tabE x x.length v - tabE x k v ≤ 100000000 := by omega
  exact ⟨hb, ratOf_sm (by omega) (by omega)⟩
theorem leastO_sm {x : List (List Int)} (hx : isSq x = true) {v : Nat} (hv : v < x.length) (h1 : tabE x x.length v ≠ -1000000000000000) : ∀ k, k ≤ x.length → ∀ r, leastO x v k = some r → SmR r := by
  intro k
  induction k with
  | zero => intro _ r h; cases h
  | succ k ih =>
    intro hk r h
    simp only [leastO] at h
    split at h
    · exact ih (by omega) r h
    · rename_i h2
      have hq := (quoR_bd hx hv (show k < x.length by omega) h1 h2).2
      split at h
      · simp only [Option.some.injEq] at h; rw [← h]; exact hq
      · rename_i l hl
        split at h
        · simp only [Option.some.injEq] at h; rw [← h]; exact hq
        · simp only [Option.some.injEq] at h; rw [← h]; exact ih (by omega) l hl
theorem leastD_sm {x : List (List Int)} (hx : isSq x = true) {v : Nat} (hv : v < x.length) (h1 : tabE x x.length v ≠ -1000000000000000) {k : Nat} (hk : k ≤ x.length) : SmR ((leastO x v k).getD (0, 0)) := by
  cases e : leastO x v k with
  | none => exact ⟨by decide, by decide⟩
  | some r => exact leastO_sm hx hv h1 k hk r e
theorem bestO_sm {x : List (List Int)} (hx : isSq x = true) : ∀ v, v ≤ x.length → ∀ r, bestO x v = some r → SmR r := by
  intro v
  induction v with
  | zero => intro _ r h; cases h
  | succ v ih =>
    intro hv r h
    simp only [bestO] at h
    split at h
    · exact ih (by omega) r h
    · rename_i h2
      have hq := leastD_sm hx (show v < x.length by omega) h2 (Nat.le_refl x.length)
      split at h
      · simp only [Option.some.injEq] at h; rw [← h]; exact hq
      · rename_i l hl
        split at h
        · simp only [Option.some.injEq] at h; rw [← h]; exact hq
        · simp only [Option.some.injEq] at h; rw [← h]; exact ih (by omega) l hl
def LInv (x : List (List Int)) (v k : Nat) (an : Bool) (lp lq : Int) : Prop := (an = true ∧ leastO x v k = some (lp, lq)) ∨ (an = false ∧ leastO x v k = none ∧ lp = 0 ∧ lq = 0)
def BInv (x : List (List Int)) (v : Nat) (fb : Bool) (bp bq : Int) : Prop := (fb = true ∧ bestO x v = some (bp, bq)) ∨ (fb = false ∧ bestO x v = none ∧ bp = 0 ∧ bq = 0)
def optT : Option (Int × Int) → (Int × Int) × Int
  | none => ((0, 0), 4)
  | some r => chkR r
def tabV (x : List (List Int)) : (Int × Int) × Int := if isSq x then optT (bestO x x.length) else ((0, 0), 1)

theorem Box2.far {w : World} {c b : Nat} {x y : Value} (h : Box2 w c x y) (hne : c ≠ b) (u v : Value) : Box2 ((w.setCell ⟨b, 0, none⟩ u).setCell ⟨b, 1, none⟩ v) c x y := by
  have hc : ∀ (i j : Nat), (⟨c, i, none⟩ : Addr) ≠ ⟨b, j, none⟩ := fun i j e => hne (by have := congrArg Addr.block e; simpa using this)
  exact ⟨by rw [World.cell?_setCell_other _ _ _ _ (fun e => hc _ _ e.symm), World.cell?_setCell_other _ _ _ _ (fun e => hc _ _ e.symm)]; exact h.c0,
    by rw [World.cell?_setCell_other _ _ _ _ (fun e => hc _ _ e.symm), World.cell?_setCell_other _ _ _ _ (fun e => hc _ _ e.symm)]; exact h.c1, by simp [h.f0], by simp [h.f1]⟩
theorem Ext.set2 {a b : World} (h : Ext a b) {k : Nat} (hk : a.heap.size ≤ k) (u v : Value) : Ext a ((b.setCell ⟨k, 0, none⟩ u).setCell ⟨k, 1, none⟩ v) := (h.set (p := ⟨k, 0, none⟩) hk u).set (p := ⟨k, 1, none⟩) hk v
theorem OwnM.one {w : World} {B B' : Nat} {a : Option Addr} {c : Nat} {xs : List Int} (h : OwnI w B' (.slice a xs.length c) xs) (hB : B ≤ w.heap.size) (hB' : B ≤ B') :
    OwnM (w.alloc (.cells #[.slice a xs.length c] 34)) B (.slice (some ⟨w.heap.size, 0, none⟩) 1 1) [xs] := by
  refine OwnM.of_hdr (m := [xs]) (A := fun _ => a) (C := fun _ => c) ?_ (fun i hi => ?_) (fun i j r o o' hi hj hne => ?_)
  · exact World.ownsRow_lit w #[.slice a xs.length c] 1 hB (by decide) rfl
  · obtain rfl : i = 0 := by simp at hi; omega
    exact (h.ext ((Ext.refl w).alloc _)).mono hB'
  · simp at hi hj; omega

set_option maxRecDepth 100000 in
set_option maxHeartbeats 4000000 in
theorem cycleMean_c (a : Option Addr) (ca : Nat) (x : List (List Int)) (w : World) (hx : MatAt w a x) (hs : isSq x = true) :
    Calls Try.prog 104 #[.slice a x.length ca] w fun e w' => e = .returned (.tuple #[.agg #[.int .i64 ((bestO x x.length).getD (0, 0)).1, .int .i64 ((bestO x x.length).getD (0, 0)).2], .bool (bestO x x.length).isSome]) ∧ Ext w w' := by
  obtain ⟨rx, hl1, hl2⟩ := isSq_rect hs
  have hxl := hx.len
  obtain ⟨W, hW, HRes, -, hE0⟩ := alloc2_facts w (.int .i64 0) (.int .i64 0) 55
  have hmk := run_make_row' (P := Try.prog) 34 2 (.int .i64 0) 8 Try.underlying34 info_i rfl .i64 .i64 x.length (by omega) (by omega)
  have HX := Lib.hid (And.intro hx (And.intro rx hs))
  have HRs := Lib.hid HRes
  -- the first row
  have hz0 := OwnI.made W W.heap.size x.length (Nat.le_refl _) (by omega)
  have hEz := (Ext.refl W).alloc (.cells (madeCells #[.int .i64 0] x.length) 2)
  obtain ⟨Wz, hWz⟩ : ∃ Wz, W.alloc (.cells (madeCells #[.int .i64 0] x.length) 2) = Wz := ⟨_, rfl⟩
  rw [hWz] at hz0 hEz
  have ho0 := OwnM.one (B := W.heap.size) hz0 hEz.size (Nat.le_refl _)
  have hEo := hEz.alloc (.cells #[.slice (some ⟨W.heap.size, 0, none⟩) (List.replicate x.length (0 : Int)).length x.length] 34)
  rw [List.length_replicate] at ho0 hEo
  obtain ⟨Wo, hWo⟩ : ∃ Wo, Wz.alloc (.cells #[.slice (some ⟨W.heap.size, 0, none⟩) x.length x.length] 34) = Wo := ⟨_, rfl⟩
  rw [hWo] at ho0 hEo
  clear hx rx hs HRes hz0 hEz
  go_enter Try.func104, Try.ntmps104
  go_wp2
  clear hmk
  go_loopw [5, 20] (fun s i wr => ∃ (k : Nat) (ao : Option Addr) (co : Nat), k ≤ x.length ∧ i = .int .i64 k ∧ Ext W wr ∧ s = .slice ao (k + 1) co ∧ OwnM wr W.heap.size (.slice ao (k + 1) co) (tabM x x.length k)) (fun _ i _ => x.length - (intOf i).toNat)
  case atStart => exact ⟨0, some ⟨Wz.heap.size, 0, none⟩, 1, Nat.zero_le _, rfl, hEo, rfl, ho0⟩
  case round =>
    obtain ⟨k, ao, co, hk, rfl, hE, rfl, hO⟩ := hrel
    clear ho0 hEo
    by_cases hlt : k < x.length
    · have hmat := hO.mat
      obtain ⟨p, oo, rfl⟩ := hmat.base (by rw [tabM_len]; omega)
      obtain ⟨q, o2, c, d1, -, hrow⟩ := hmat.hdr (tabM_rect x x.length k) (Nat.lt_succ_self k) (by omega)
      rw [tabM_row x x.length k (Nat.le_refl k)] at hrow
      have hap := timesVector_c a (some ⟨q, o2, none⟩) ca c x.length x.length x (tabR x x.length k) wr (HX.out.1.mono (hE0.trans hE)) hrow HX.out.2.1 (tabR_len _ _ _) (by omega) (by omega) (by omega) (isSq_abd HX.out.2.2).ebd ((tabR_vbd HX.out.2.2 k (by omega)).mono (by omega))
      rw [tabR_len] at hap
      have Hap := Lib.hid hap
      clear hap hmat hrow
      go_wp2_with fail
      refine Hap.out.mono ?_
      rintro e w2 ⟨ar, cr, rfl, hO2, hE2⟩
      have hl : (tabM x x.length k).length ≤ 1000000000 := by rw [tabM_len]; omega
      rw [mkRow_len]
      have hE3 := hE2.alloc (.cells #[.slice ar x.length cr] 34)
      have hrl : (mkRow x.length (appF x.length x (tabR x x.length k))).length = x.length := mkRow_len _ _
      rw [hrl] at hO2
      have hlen2 : (tabM x x.length k).length = k + 1 := tabM_len _ _ _
      clear d1
      go_wp2_with (at_builtin; refine app_m rfl _ _ rfl W.heap.size _ _ rfl hO hE3 ⟨w2.heap.size, 0, none⟩ 1 ar cr (mkRow x.length (appF x.length x (tabR x x.length k))) rfl (by rw [hrl]; exact cell_one _ _ _) (by rw [hrl]; exact hO2.ext ((Ext.refl w2).alloc _)) hl hE.size ?_)
      intro v' w' hO4 hg
      have hE4 := grown_m (hE.trans hE2) (hO.ext hE2) (Nat.le_refl _) hg
      obtain ⟨a4, c4, rfl, -⟩ := hO4.at
      have hl4 : (tabM x x.length k ++ [mkRow x.length (appF x.length x (tabR x x.length k))]).length = k + 1 + 1 := by rw [List.length_append, hlen2]; rfl
      rw [hl4] at hO4 ⊢
      clear hl hrl hlen2 hl4
      go_wp2
      go_roundw
      case rel => exact ⟨k + 1, a4, c4, by omega, by go_num, hE4, rfl, hO4⟩
      case measure => simp [intOf]; omega
    · obtain rfl : k = x.length := by omega
      have hmat := hO.mat
      obtain ⟨p, oo, rfl⟩ := hmat.base (by rw [tabM_len]; omega)
      have hcell : ∀ i, i ≤ x.length → ∃ q o2 c, wr.cell? ⟨p, oo + i, none⟩ = some (.slice (some ⟨q, o2, none⟩) x.length c) ∧ ∀ j, j < x.length → wr.cell? ⟨q, o2 + j, none⟩ = some (.int .i64 (tabE x i j)) := fun i hi => by
        obtain ⟨q, o2, c, d1, d2, -⟩ := hmat.hdr (tabM_rect x x.length x.length) (show i < x.length + 1 by omega) (by omega)
        refine ⟨q, o2, c, d1, fun j hj => ?_⟩
        have := d2 j hj
        unfold ent at this
        rwa [tabM_row x x.length x.length hi] at this
      have HT := Lib.hid hcell
      obtain ⟨wt, rfl⟩ : ∃ wt, wt = wr := ⟨_, rfl⟩
      clear hcell hmat hO hWz hWo hW
      obtain ⟨Wb, hWb, HBst, -, hEb⟩ := alloc2_facts wt (.int .i64 0) (.int .i64 0) 55

      go_wp2
      go_loopw [8, 34] (fun f i wr => ∃ (v : Nat) (fb : Bool) (bp bq : Int), v ≤ x.length ∧ i = .int .i64 v ∧ f = .bool fb ∧ Ext wt wr ∧ wt.heap.size < wr.heap.size ∧ Box2 wr wt.heap.size (.int .i64 bp) (.int .i64 bq) ∧ BInv x v fb bp bq) (fun _ i _ => x.length - (intOf i).toNat)
      case atStart => exact ⟨0, false, 0, 0, Nat.zero_le _, rfl, rfl, hEb, by have := HBst.lt; exact this, HBst, .inr ⟨rfl, rfl, rfl, rfl⟩⟩
      case round =>
        obtain ⟨v, fb, bp, bq, hv, rfl, rfl, hEv, hszv, hBb, hbst⟩ := hrel
        clear HBst hEb
        by_cases hltv : v < x.length
        · obtain ⟨q, o2, c, d1, d2⟩ := HT.out x.length (Nat.le_refl _)
          replace d1 := hEv.cell d1
          replace d2 := hEv.cell (d2 v hltv)
          have D1 := Lib.hid d1
          have D2 := Lib.hid d2
          have D0 := Lib.hid (HT.out x.length (Nat.le_refl _))
          by_cases htb : tabE x x.length v = -1000000000000000
          · have hst : BInv x (v + 1) fb bp bq := by
              have e : bestO x (v + 1) = bestO x v := by simp only [bestO]; rw [if_pos htb]
              unfold BInv; rw [e]; exact hbst
            rw [htb] at d2
            clear htb hbst
            go_wp2
            go_roundw
            case rel => exact ⟨v + 1, fb, bp, bq, by omega, by go_num, rfl, hEv, hszv, hBb, hst⟩
            case measure => simp [intOf]; omega
          · have htb' : (tabE x x.length v == -1000000000000000) = false := by rw [beq_eq_false_iff_ne]; exact htb
            have HTB := Lib.hid htb
            obtain ⟨tn, htn⟩ : ∃ tn, tabE x x.length v = tn := ⟨_, rfl⟩
            have HTN := Lib.hid htn
            rw [htn] at d2 htb'
            obtain ⟨wo, rfl⟩ : ∃ wo, wo = wr := ⟨_, rfl⟩
            clear htb htn
            obtain ⟨Wl, hWl, HL0, HL1, -, hEl0, hEl⟩ := box_putE wo (.int .i64 0) (.int .i64 0) 55
            obtain ⟨l0, l1, lf0, lf1⟩ := HL0
            have hBb1 := hBb.ext hEl
            have hwl : wo.heap.size < ((Wl.setCell ⟨wo.heap.size, 0, none⟩ (.int .i64 0)).setCell ⟨wo.heap.size, 1, none⟩ (.int .i64 0)).heap.size := HL1.lt
            go_wp2
            go_loopw [11, 47] (fun f i wr => ∃ (k : Nat) (an : Bool) (lp lq : Int), k ≤ x.length ∧ i = .int .i64 k ∧ f = .bool an ∧ Ext wo wr ∧ wo.heap.size < wr.heap.size ∧ Box2 wr wo.heap.size (.int .i64 lp) (.int .i64 lq) ∧ LInv x v k an lp lq) (fun _ i _ => x.length - (intOf i).toNat)
            case atStart => exact ⟨0, false, 0, 0, Nat.zero_le _, rfl, rfl, hEl, hwl, HL1, .inr ⟨rfl, rfl, rfl, rfl⟩⟩
            case round =>
              obtain ⟨k, an, lp, lq, hk, rfl, rfl, hEk, hszk, hLb, hlst⟩ := hrel
              clear HL1 hEl hBb1 hwl
              by_cases hltk : k < x.length
              · obtain ⟨q3, o3, c3, e1, e2⟩ := HT.out k (by omega)
                have hEvk := hEv.trans hEk
                replace e1 := hEvk.cell e1
                replace e2 := hEvk.cell (e2 v hltv)
                have n1 := hEk.cell D1.out
                have n2 := hEk.cell D2.out
                rw [HTN.out] at n2
                have hstep : leastO x v (k + 1) = if tabE x k v = -1000000000000000 then leastO x v k else match leastO x v k with | none => some (quoR x v k) | some l => if cmpR (quoR x v k) l < 0 then some (quoR x v k) else some l := rfl
                by_cases hkb : tabE x k v = -1000000000000000
                · rw [if_pos hkb] at hstep
                  have hst : LInv x v (k + 1) an lp lq := by unfold LInv; rw [hstep]; exact hlst
                  rw [hkb] at e2
                  clear hkb hstep hlst
                  go_wp2
                  go_roundw
                  case rel => exact ⟨k + 1, an, lp, lq, by omega, by go_num, rfl, hEk, hszk, hLb, hst⟩
                  case measure => simp [intOf]; omega
                · have hkb' : (tabE x k v == -1000000000000000) = false := by rw [beq_eq_false_iff_ne]; exact hkb
                  rw [if_neg hkb] at hstep
                  obtain ⟨hqb, hqs⟩ := quoR_bd HX.out.2.2 hltv hltk HTB.out hkb
                  obtain ⟨hqs1, hqs2⟩ := hqs
                  have hrc := fun w' => ratioOf_c (tabE x x.length v - tabE x k v) ((x.length : Int) - (k : Int)) w' (by omega) (by omega) (by omega)
                  have hQd : ratOf (tabE x x.length v - tabE x k v) ((x.length : Int) - (k : Int)) = quoR x v k := rfl
                  rw [hQd, HTN.out] at hrc
                  rw [HTN.out] at hqb
                  generalize quoR x v k = Q at *
                  have HRc := Lib.hid hrc
                  clear hrc hQd hkb
                  generalize tabE x k v = tk at *
                  have hlsm : SmR (lp, lq) := by
                    rcases hlst with ⟨_, h⟩ | ⟨_, _, h1, h2⟩
                    · exact leastO_sm HX.out.2.2 hltv HTB.out k hk _ h
                    · rw [h1, h2]; exact ⟨by decide, by decide⟩
                  obtain ⟨hls1, hls2⟩ := hlsm
                  simp only at hls1 hls2
                  have hwr1 : IntKind.i64.wrap (tn - tk) = tn - tk := IntWalk.i64_in _ (by omega)
                  have hwr2 : IntKind.i64.wrap ((x.length : Int) - (k : Int)) = (x.length : Int) - (k : Int) := IntWalk.i64_in _ (by omega)
                  go_upto_region 19 with fail
                  go_cut [13] from 58 to 76 (fun s13 wx => ∃ c : Nat, s13 = .pointer (some ⟨c, 0, none⟩) ∧ Ext wr wx ∧ wr.heap.size ≤ c ∧ Box2 wx c (.int .i64 Q.1) (.int .i64 Q.2))
                  case first =>
                    obtain ⟨Wb, hWb, HBx, hEb⟩ : ∃ W, wr.drew.alloc (.cells #[.int .i64 0, .int .i64 0] 55) = W ∧ Box2 W wr.heap.size (.int .i64 0) (.int .i64 0) ∧ Ext wr W := by
                      obtain ⟨W, h1, h2, -, h4⟩ := alloc2_facts wr.drew (.int .i64 0) (.int .i64 0) 55
                      exact ⟨W, h1, h2, (Ext.refl wr).drew.trans h4⟩
                    have i1 : (x.length : Int) < (x.length : Int) + 1 := by omega
                    have i2 : (k : Int) < (x.length : Int) + 1 := by omega
                    have i3 : (0 : Int) ≤ (x.length : Int) := by omega
                    have i4 : (0 : Int) ≤ (k : Int) := by omega
                    go_region_held3 (fun w' => Ext wr w' ∧ w'.cell? ⟨p, oo + k, none⟩ = some (.slice (some ⟨q3, o3, none⟩) x.length c3) ∧ w'.cell? ⟨q3, o3 + v, none⟩ = some (.int .i64 tk) ∧ w'.cell? ⟨p, oo + x.length, none⟩ = some (.slice (some ⟨q, o2, none⟩) x.length c) ∧ w'.cell? ⟨q, o2 + v, none⟩ = some (.int .i64 tn))
                      ((refine keepR2 e1 e2 n1 n2 ?_; repeat (first | exact hEb | exact (Ext.refl _).drew | exact hE5' | exact hE5'.trans hE55 | refine Ext.set ?_ (by first | exact Nat.le_refl _ | exact h5s) _ | refine Ext.alloc ?_ _)))
                      (first | (go_at_call 112; refine (HRc.out _).mono ?_; rintro e w5 ⟨rfl, hE5⟩; first | ((have hE5b : Ext Wb w5 := by assumption); (have hE5' := hEb.trans hE5b); (have h5s := hE5'.size); obtain ⟨r0, r1, rf0, rf1⟩ := HBx.ext hE5b) | ((have hE5' : Ext wr w5 := (Ext.refl wr).drew.trans hE5); (have h5s := hE5'.size); obtain ⟨Wq, hWq, ⟨r0, r1, rf0, rf1⟩, HQ1, -, hE55, hEq⟩ := box_putE w5 (.int .i64 Q.1) (.int .i64 Q.2) 55)))
                    all_goals (go_wp2_with fail; go_meet; first | exact ⟨wr.heap.size, rfl, hE5'.set2 (Nat.le_refl _) _ _, Nat.le_refl _, Box2.putE ⟨r0, r1, rf0, rf1⟩ _ _⟩ | exact ⟨w5.heap.size, rfl, hE5'.trans hEq, h5s, HQ1⟩)
                  case rest =>
                  obtain ⟨cq0, rfl, hE6, hcq0, HQ1⟩ := hcut
                  have hsz6 := hE6.size
                  have hLb6 := hLb.ext hE6
                  have hEk6 := hEk.trans hE6
                  cases an
                  · have hls : leastO x v k = none := by rcases hlst with ⟨h, _⟩ | ⟨_, h, _⟩; cases h; exact h
                    rw [hls] at hstep
                    have hst : LInv x v (k + 1) true Q.1 Q.2 := .inl ⟨rfl, hstep⟩
                    obtain ⟨y0, y1, -, -⟩ := HQ1
                    obtain ⟨z0, z1, zf0, zf1⟩ := hLb6
                    have hput := Box2.putE ⟨z0, z1, zf0, zf1⟩ (.int .i64 Q.1) (.int .i64 Q.2)
                    have hEs := hEk6.set2 (Nat.le_refl _) (.int .i64 Q.1) (.int .i64 Q.2)
                    have hszs : wo.heap.size < cq0 := by omega
                    have Hput := Lib.hid hput
                    clear hput hlst hstep hls
                    go_wp2
                    go_roundw
                    case rel => exact ⟨k + 1, true, Q.1, Q.2, by omega, by go_num, rfl, hEs, Hput.out.lt, Hput.out, hst⟩
                    case measure => simp [intOf]; omega
                  · have hls : leastO x v k = some (lp, lq) := by rcases hlst with ⟨_, h⟩ | ⟨h, _⟩; exact h; cases h
                    rw [hls] at hstep
                    replace hstep : leastO x v (k + 1) = if cmpR Q (lp, lq) < 0 then some Q else some (lp, lq) := hstep
                    obtain ⟨y0, y1, -, -⟩ := HQ1
                    obtain ⟨z0, z1, zf0, zf1⟩ := hLb6
                    have hcmp := fun w' => compareRatios_c Q.1 Q.2 lp lq w' hqs1 hqs2 hls1 hls2
                    have hszs : wo.heap.size < cq0 := by omega
                    generalize hC : cmpR (Q.1, Q.2) (lp, lq) = cq at hcmp
                    have hC2 : cmpR Q (lp, lq) = cq := hC
                    rw [hC2] at hstep
                    have HCmp := Lib.hid hcmp
                    clear hcmp hC hC2 hlst hls
                    by_cases hcq : cq < 0
                    · rw [if_pos hcq] at hstep
                      have hst : LInv x v (k + 1) true Q.1 Q.2 := .inl ⟨rfl, hstep⟩
                      clear hstep
                      go_wp2_with fail
                      refine (HCmp.out _).mono ?_
                      rintro e w7 ⟨rfl, hE7⟩
                      replace y0 := hE7.cell y0
                      replace y1 := hE7.cell y1
                      obtain ⟨z0, z1, zf0, zf1⟩ := (Box2.mk z0 z1 zf0 zf1).ext hE7
                      have hput := Box2.putE ⟨z0, z1, zf0, zf1⟩ (.int .i64 Q.1) (.int .i64 Q.2)
                      have hEs := (hEk6.trans hE7).set2 (Nat.le_refl _) (.int .i64 Q.1) (.int .i64 Q.2)
                      have Hput := Lib.hid hput
                      clear hput
                      go_wp2
                      go_roundw
                      case rel => exact ⟨k + 1, true, Q.1, Q.2, by omega, by go_num, rfl, hEs, Hput.out.lt, Hput.out, hst⟩
                      case measure => simp [intOf]; omega
                    · rw [if_neg hcq] at hstep
                      have hst : LInv x v (k + 1) true lp lq := .inl ⟨rfl, hstep⟩
                      clear hstep
                      go_wp2_with fail
                      refine (HCmp.out _).mono ?_
                      rintro e w7 ⟨rfl, hE7⟩
                      have hLb7 := (Box2.mk z0 z1 zf0 zf1).ext hE7
                      have hEs := hEk6.trans hE7
                      go_wp2
                      go_roundw
                      case rel => exact ⟨k + 1, true, lp, lq, by omega, by go_num, rfl, hEs, hLb7.lt, hLb7, hst⟩
                      case measure => simp [intOf]; omega
              · obtain rfl : k = x.length := by omega
                have hbstep : bestO x (v + 1) = match bestO x v with | none => some (lp, lq) | some b => if 0 < cmpR (lp, lq) b then some (lp, lq) else some b := by
                  have hd : (leastO x v x.length).getD (0, 0) = (lp, lq) := by
                    rcases hlst with ⟨_, h⟩ | ⟨_, h, h1, h2⟩
                    · rw [h]; rfl
                    · rw [h, h1, h2]; rfl
                  simp only [bestO]; rw [if_neg HTB.out, hd]
                have hlsm : SmR (lp, lq) := by
                  rcases hlst with ⟨_, h⟩ | ⟨_, _, h1, h2⟩
                  · exact leastO_sm HX.out.2.2 hltv HTB.out _ hk _ h
                  · rw [h1, h2]; exact ⟨by decide, by decide⟩
                obtain ⟨hls1, hls2⟩ := hlsm
                simp only at hls1 hls2
                obtain ⟨z0, z1, zf0, zf1⟩ := hLb
                have hBb2 := hBb.ext hEk
                have hEvk := hEv.trans hEk
                have hne : wt.heap.size ≠ wo.heap.size := by omega
                cases fb
                · have hbn : bestO x v = none := by rcases hbst with ⟨h, _⟩ | ⟨_, h, _⟩; cases h; exact h
                  rw [hbn] at hbstep
                  have hst : BInv x (v + 1) true lp lq := .inl ⟨rfl, hbstep⟩
                  obtain ⟨b0, b1, bf0, bf1⟩ := hBb2
                  have hput := Box2.putE ⟨b0, b1, bf0, bf1⟩ (.int .i64 lp) (.int .i64 lq)
                  have hEs := hEvk.set2 (Nat.le_refl _) (.int .i64 lp) (.int .i64 lq)
                  have Hput := Lib.hid hput
                  clear hput hbstep hbn hbst hlst
                  go_wp2
                  go_roundw
                  case rel => exact ⟨v + 1, true, lp, lq, by omega, by go_num, rfl, hEs, Hput.out.lt, Hput.out, hst⟩
                  case measure => simp [intOf]; omega
                · have hbn : bestO x v = some (bp, bq) := by rcases hbst with ⟨_, h⟩ | ⟨h, _⟩; exact h; cases h
                  rw [hbn] at hbstep
                  replace hbstep : bestO x (v + 1) = if 0 < cmpR (lp, lq) (bp, bq) then some (lp, lq) else some (bp, bq) := hbstep
                  have hbsm := bestO_sm HX.out.2.2 v hv _ hbn
                  obtain ⟨hbs1, hbs2⟩ := hbsm
                  simp only at hbs1 hbs2
                  obtain ⟨b0, b1, bf0, bf1⟩ := hBb2
                  have hcmp := fun w' => compareRatios_c lp lq bp bq w' hls1 hls2 hbs1 hbs2
                  generalize cmpR (lp, lq) (bp, bq) = cq at *
                  have HCmp := Lib.hid hcmp
                  clear hcmp hbn hbst hlst
                  by_cases hcq : 0 < cq
                  · simp only [if_pos hcq] at hbstep
                    have hst : BInv x (v + 1) true lp lq := .inl ⟨rfl, hbstep⟩
                    clear hbstep
                    go_wp2_with fail
                    refine (HCmp.out _).mono ?_
                    rintro e w7 ⟨rfl, hE7⟩
                    replace z0 := hE7.cell z0
                    replace z1 := hE7.cell z1
                    obtain ⟨b0, b1, bf0, bf1⟩ := (Box2.mk b0 b1 bf0 bf1).ext hE7
                    have hput := Box2.putE ⟨b0, b1, bf0, bf1⟩ (.int .i64 lp) (.int .i64 lq)
                    have hEs := (hEvk.trans hE7).set2 (Nat.le_refl _) (.int .i64 lp) (.int .i64 lq)
                    have Hput := Lib.hid hput
                    clear hput
                    go_wp2
                    go_roundw
                    case rel => exact ⟨v + 1, true, lp, lq, by omega, by go_num, rfl, hEs, Hput.out.lt, Hput.out, hst⟩
                    case measure => simp [intOf]; omega
                  · simp only [if_neg hcq] at hbstep
                    have hst : BInv x (v + 1) true bp bq := .inl ⟨rfl, hbstep⟩
                    clear hbstep
                    go_wp2_with fail
                    refine (HCmp.out _).mono ?_
                    rintro e w7 ⟨rfl, hE7⟩
                    have hBb7 := (Box2.mk b0 b1 bf0 bf1).ext hE7
                    have hEs := hEvk.trans hE7
                    go_wp2
                    go_roundw
                    case rel => exact ⟨v + 1, true, bp, bq, by omega, by go_num, rfl, hEs, hBb7.lt, hBb7, hst⟩
                    case measure => simp [intOf]; omega
        · obtain rfl : v = x.length := by omega
          have hres : (bestO x x.length).getD (0, 0) = (bp, bq) ∧ (bestO x x.length).isSome = fb := by
            rcases hbst with ⟨h1, h2⟩ | ⟨h1, h2, h3, h4⟩
            · rw [h2, h1]; exact ⟨rfl, rfl⟩
            · rw [h2, h1, h3, h4]; exact ⟨rfl, rfl⟩
          have HRe := Lib.hid hres
          obtain ⟨b0, b1, bf0, bf1⟩ := hBb
          obtain ⟨g0, g1, gf0, gf1⟩ := HRs.out.ext (hE.trans hEv)
          have hEE := (hE0.trans hE).trans hEv
          clear hres hbst
          go_wp2
          refine bodyPost_ret (v := .tuple #[.agg #[.int .i64 bp, .int .i64 bq], .bool fb]) (by simp [results, Try.results104, go_sem, g0, g1]) rfl ⟨?_, ?_⟩
          · rw [HRe.out.1, HRe.out.2]
          · repeat (first | exact hEE | refine Ext.set ?_ (Nat.le_refl _) _)

set_option maxRecDepth 100000 in
set_option maxHeartbeats 4000000 in
theorem l04Table_c (a : Option Addr) (ca : Nat) (x : List (List Int)) (w : World) (hx : MatAt w a x) (hs : isSq x = true) :
    Calls Try.prog 109 #[.slice a x.length ca] w fun e w' => e = .returned (.tuple #[.agg #[.int .i64 ((bestO x x.length).getD (0, 0)).1, .int .i64 ((bestO x x.length).getD (0, 0)).2], .bool (bestO x x.length).isSome]) ∧ Ext w w' := by
  obtain ⟨rx, hl1, hl2⟩ := isSq_rect hs
  have hxl := hx.len
  obtain ⟨W, hW, HRes, -, hE0⟩ := alloc2_facts w (.int .i64 0) (.int .i64 0) 55
  have hmk := run_make_row' (P := Try.prog) 34 2 (.int .i64 0) 8 Try.underlying34 info_i rfl .i64 .i64 x.length (by omega) (by omega)
  have HX := Lib.hid (And.intro hx (And.intro rx hs))
  have HRs := Lib.hid HRes
  -- the first row
  have hz0 := OwnI.made W W.heap.size x.length (Nat.le_refl _) (by omega)
  have hEz := (Ext.refl W).alloc (.cells (madeCells #[.int .i64 0] x.length) 2)
  obtain ⟨Wz, hWz⟩ : ∃ Wz, W.alloc (.cells (madeCells #[.int .i64 0] x.length) 2) = Wz := ⟨_, rfl⟩
  rw [hWz] at hz0 hEz
  have ho0 := OwnM.one (B := W.heap.size) hz0 hEz.size (Nat.le_refl _)
  have hEo := hEz.alloc (.cells #[.slice (some ⟨W.heap.size, 0, none⟩) (List.replicate x.length (0 : Int)).length x.length] 34)
  rw [List.length_replicate] at ho0 hEo
  obtain ⟨Wo, hWo⟩ : ∃ Wo, Wz.alloc (.cells #[.slice (some ⟨W.heap.size, 0, none⟩) x.length x.length] 34) = Wo := ⟨_, rfl⟩
  rw [hWo] at ho0 hEo
  clear hx rx hs HRes hz0 hEz
  go_enter Try.func109, Try.ntmps109
  go_wp2
  clear hmk
  go_loopw [5, 6] (fun s i wr => ∃ (k : Nat) (ao : Option Addr) (co : Nat), k ≤ x.length ∧ i = .int .i64 k ∧ Ext W wr ∧ s = .slice ao (k + 1) co ∧ OwnM wr W.heap.size (.slice ao (k + 1) co) (tabM x x.length k)) (fun _ i _ => x.length - (intOf i).toNat)
  case atStart => exact ⟨0, some ⟨Wz.heap.size, 0, none⟩, 1, Nat.zero_le _, rfl, hEo, rfl, ho0⟩
  case round =>
    obtain ⟨k, ao, co, hk, rfl, hE, rfl, hO⟩ := hrel
    clear ho0 hEo
    by_cases hlt : k < x.length
    · have hmat := hO.mat
      obtain ⟨p, oo, rfl⟩ := hmat.base (by rw [tabM_len]; omega)
      obtain ⟨q, o2, c, d1, -, hrow⟩ := hmat.hdr (tabM_rect x x.length k) (Nat.lt_succ_self k) (by omega)
      rw [tabM_row x x.length k (Nat.le_refl k)] at hrow
      have hap := l02Apply_c a (some ⟨q, o2, none⟩) ca c x.length x.length x (tabR x x.length k) wr (HX.out.1.mono (hE0.trans hE)) hrow HX.out.2.1 (tabR_len _ _ _) (by omega) (by omega) (by omega) (isSq_abd HX.out.2.2).ebd ((tabR_vbd HX.out.2.2 k (by omega)).mono (by omega))
      rw [tabR_len] at hap
      have Hap := Lib.hid hap
      clear hap hmat hrow
      go_wp2_with fail
      refine Hap.out.mono ?_
      rintro e w2 ⟨ar, cr, rfl, hO2, hE2⟩
      have hl : (tabM x x.length k).length ≤ 1000000000 := by rw [tabM_len]; omega
      rw [mkRow_len]
      have hE3 := hE2.alloc (.cells #[.slice ar x.length cr] 34)
      have hrl : (mkRow x.length (appF x.length x (tabR x x.length k))).length = x.length := mkRow_len _ _
      rw [hrl] at hO2
      have hlen2 : (tabM x x.length k).length = k + 1 := tabM_len _ _ _
      clear d1
      go_wp2_with (at_builtin; refine app_m rfl _ _ rfl W.heap.size _ _ rfl hO hE3 ⟨w2.heap.size, 0, none⟩ 1 ar cr (mkRow x.length (appF x.length x (tabR x x.length k))) rfl (by rw [hrl]; exact cell_one _ _ _) (by rw [hrl]; exact hO2.ext ((Ext.refl w2).alloc _)) hl hE.size ?_)
      intro v' w' hO4 hg
      have hE4 := grown_m (hE.trans hE2) (hO.ext hE2) (Nat.le_refl _) hg
      obtain ⟨a4, c4, rfl, -⟩ := hO4.at
      have hl4 : (tabM x x.length k ++ [mkRow x.length (appF x.length x (tabR x x.length k))]).length = k + 1 + 1 := by rw [List.length_append, hlen2]; rfl
      rw [hl4] at hO4 ⊢
      clear hl hrl hlen2 hl4
      go_wp2
      go_roundw
      case rel => exact ⟨k + 1, a4, c4, by omega, by go_num, hE4, rfl, hO4⟩
      case measure => simp [intOf]; omega
    · obtain rfl : k = x.length := by omega
      have hmat := hO.mat
      obtain ⟨p, oo, rfl⟩ := hmat.base (by rw [tabM_len]; omega)
      have hcell : ∀ i, i ≤ x.length → ∃ q o2 c, wr.cell? ⟨p, oo + i, none⟩ = some (.slice (some ⟨q, o2, none⟩) x.length c) ∧ ∀ j, j < x.length → wr.cell? ⟨q, o2 + j, none⟩ = some (.int .i64 (tabE x i j)) := fun i hi => by
        obtain ⟨q, o2, c, d1, d2, -⟩ := hmat.hdr (tabM_rect x x.length x.length) (show i < x.length + 1 by omega) (by omega)
        refine ⟨q, o2, c, d1, fun j hj => ?_⟩
        have := d2 j hj
        unfold ent at this
        rwa [tabM_row x x.length x.length hi] at this
      have HT := Lib.hid hcell
      obtain ⟨wt, rfl⟩ : ∃ wt, wt = wr := ⟨_, rfl⟩
      clear hcell hmat hO hWz hWo hW
      obtain ⟨Wb, hWb, HBst, -, hEb⟩ := alloc2_facts wt (.int .i64 0) (.int .i64 0) 55

      obtain ⟨fa, fb, fc, fd⟩ := HBst
      have HBst : Box2 ((Wb.setCell ⟨wt.heap.size, 0, none⟩ (.int .i64 0)).setCell ⟨wt.heap.size, 1, none⟩ (.int .i64 0)) wt.heap.size (.int .i64 0) (.int .i64 0) := Box2.putE ⟨fa, fb, fc, fd⟩ _ _
      replace hEb := hEb.set2 (Nat.le_refl _) (.int .i64 0) (.int .i64 0)
      go_wp2
      go_loopw [8, 9] (fun f i wr => ∃ (v : Nat) (fb : Bool) (bp bq : Int), v ≤ x.length ∧ i = .int .i64 v ∧ f = .bool fb ∧ Ext wt wr ∧ wt.heap.size < wr.heap.size ∧ Box2 wr wt.heap.size (.int .i64 bp) (.int .i64 bq) ∧ BInv x v fb bp bq) (fun _ i _ => x.length - (intOf i).toNat)
      case atStart => exact ⟨0, false, 0, 0, Nat.zero_le _, rfl, rfl, hEb, by have := HBst.lt; exact this, HBst, .inr ⟨rfl, rfl, rfl, rfl⟩⟩
      case round =>
        obtain ⟨v, fb, bp, bq, hv, rfl, rfl, hEv, hszv, hBb, hbst⟩ := hrel
        clear HBst hEb
        by_cases hltv : v < x.length
        · obtain ⟨q, o2, c, d1, d2⟩ := HT.out x.length (Nat.le_refl _)
          replace d1 := hEv.cell d1
          replace d2 := hEv.cell (d2 v hltv)
          have D1 := Lib.hid d1
          have D2 := Lib.hid d2
          have D0 := Lib.hid (HT.out x.length (Nat.le_refl _))
          by_cases htb : tabE x x.length v = -1000000000000000
          · have hst : BInv x (v + 1) fb bp bq := by
              have e : bestO x (v + 1) = bestO x v := by simp only [bestO]; rw [if_pos htb]
              unfold BInv; rw [e]; exact hbst
            rw [htb] at d2
            clear htb hbst
            go_wp2
            go_roundw
            case rel => exact ⟨v + 1, fb, bp, bq, by omega, by go_num, rfl, hEv, hszv, hBb, hst⟩
            case measure => simp [intOf]; omega
          · have htb' : (tabE x x.length v == -1000000000000000) = false := by rw [beq_eq_false_iff_ne]; exact htb
            have HTB := Lib.hid htb
            obtain ⟨tn, htn⟩ : ∃ tn, tabE x x.length v = tn := ⟨_, rfl⟩
            have HTN := Lib.hid htn
            rw [htn] at d2 htb'
            obtain ⟨wo, rfl⟩ : ∃ wo, wo = wr := ⟨_, rfl⟩
            clear htb htn
            obtain ⟨Wl, hWl, HL0, HL1, -, hEl0, hEl⟩ := box_putE wo (.int .i64 0) (.int .i64 0) 55
            obtain ⟨l0, l1, lf0, lf1⟩ := HL0
            have hBb1 := hBb.ext hEl
            have hwl : wo.heap.size < ((Wl.setCell ⟨wo.heap.size, 0, none⟩ (.int .i64 0)).setCell ⟨wo.heap.size, 1, none⟩ (.int .i64 0)).heap.size := HL1.lt
            go_wp2
            go_loopw [11, 12] (fun f i wr => ∃ (k : Nat) (an : Bool) (lp lq : Int), k ≤ x.length ∧ i = .int .i64 k ∧ f = .bool an ∧ Ext wo wr ∧ wo.heap.size < wr.heap.size ∧ Box2 wr wo.heap.size (.int .i64 lp) (.int .i64 lq) ∧ LInv x v k an lp lq) (fun _ i _ => x.length - (intOf i).toNat)
            case atStart => exact ⟨0, false, 0, 0, Nat.zero_le _, rfl, rfl, hEl, hwl, HL1, .inr ⟨rfl, rfl, rfl, rfl⟩⟩
            case round =>
              obtain ⟨k, an, lp, lq, hk, rfl, rfl, hEk, hszk, hLb, hlst⟩ := hrel
              clear HL1 hEl hBb1 hwl
              by_cases hltk : k < x.length
              · obtain ⟨q3, o3, c3, e1, e2⟩ := HT.out k (by omega)
                have hEvk := hEv.trans hEk
                replace e1 := hEvk.cell e1
                replace e2 := hEvk.cell (e2 v hltv)
                have n1 := hEk.cell D1.out
                have n2 := hEk.cell D2.out
                rw [HTN.out] at n2
                have hstep : leastO x v (k + 1) = if tabE x k v = -1000000000000000 then leastO x v k else match leastO x v k with | none => some (quoR x v k) | some l => if cmpR (quoR x v k) l < 0 then some (quoR x v k) else some l := rfl
                by_cases hkb : tabE x k v = -1000000000000000
                · rw [if_pos hkb] at hstep
                  have hst : LInv x v (k + 1) an lp lq := by unfold LInv; rw [hstep]; exact hlst
                  rw [hkb] at e2
                  clear hkb hstep hlst
                  go_wp2
                  go_roundw
                  case rel => exact ⟨k + 1, an, lp, lq, by omega, by go_num, rfl, hEk, hszk, hLb, hst⟩
                  case measure => simp [intOf]; omega
                · have hkb' : (tabE x k v == -1000000000000000) = false := by rw [beq_eq_false_iff_ne]; exact hkb
                  rw [if_neg hkb] at hstep
                  obtain ⟨hqb, hqs⟩ := quoR_bd HX.out.2.2 hltv hltk HTB.out hkb
                  obtain ⟨hqs1, hqs2⟩ := hqs
                  have hrc := fun w' => l01Ratio_c (tabE x x.length v - tabE x k v) ((x.length : Int) - (k : Int)) w' (by omega) (by omega) (by omega)
                  have hQd : ratOf (tabE x x.length v - tabE x k v) ((x.length : Int) - (k : Int)) = quoR x v k := rfl
                  rw [hQd, HTN.out] at hrc
                  rw [HTN.out] at hqb
                  generalize quoR x v k = Q at *
                  have HRc := Lib.hid hrc
                  clear hrc hQd hkb
                  generalize tabE x k v = tk at *
                  have hlsm : SmR (lp, lq) := by
                    rcases hlst with ⟨_, h⟩ | ⟨_, _, h1, h2⟩
                    · exact leastO_sm HX.out.2.2 hltv HTB.out k hk _ h
                    · rw [h1, h2]; exact ⟨by decide, by decide⟩
                  obtain ⟨hls1, hls2⟩ := hlsm
                  simp only at hls1 hls2
                  have hwr1 : IntKind.i64.wrap (tn - tk) = tn - tk := IntWalk.i64_in _ (by omega)
                  have hwr2 : IntKind.i64.wrap ((x.length : Int) - (k : Int)) = (x.length : Int) - (k : Int) := IntWalk.i64_in _ (by omega)
                  go_upto_region 17 with fail
                  go_cut [13] from 61 to 79 (fun s13 wx => ∃ c : Nat, s13 = .pointer (some ⟨c, 0, none⟩) ∧ Ext wr wx ∧ wr.heap.size ≤ c ∧ Box2 wx c (.int .i64 Q.1) (.int .i64 Q.2))
                  case first =>
                    obtain ⟨Wb, hWb, HBx, hEb⟩ : ∃ W, wr.drew.alloc (.cells #[.int .i64 0, .int .i64 0] 55) = W ∧ Box2 W wr.heap.size (.int .i64 0) (.int .i64 0) ∧ Ext wr W := by
                      obtain ⟨W, h1, h2, -, h4⟩ := alloc2_facts wr.drew (.int .i64 0) (.int .i64 0) 55
                      exact ⟨W, h1, h2, (Ext.refl wr).drew.trans h4⟩
                    have i1 : (x.length : Int) < (x.length : Int) + 1 := by omega
                    have i2 : (k : Int) < (x.length : Int) + 1 := by omega
                    have i3 : (0 : Int) ≤ (x.length : Int) := by omega
                    have i4 : (0 : Int) ≤ (k : Int) := by omega
                    go_region_held3 (fun w' => Ext wr w' ∧ w'.cell? ⟨p, oo + k, none⟩ = some (.slice (some ⟨q3, o3, none⟩) x.length c3) ∧ w'.cell? ⟨q3, o3 + v, none⟩ = some (.int .i64 tk) ∧ w'.cell? ⟨p, oo + x.length, none⟩ = some (.slice (some ⟨q, o2, none⟩) x.length c) ∧ w'.cell? ⟨q, o2 + v, none⟩ = some (.int .i64 tn))
                      ((refine keepR2 e1 e2 n1 n2 ?_; repeat (first | exact hEb | exact (Ext.refl _).drew | exact hE5' | exact hE5'.trans hE55 | refine Ext.set ?_ (by first | exact Nat.le_refl _ | exact h5s) _ | refine Ext.alloc ?_ _)))
                      (first | (go_at_call 145; refine (HRc.out _).mono ?_; rintro e w5 ⟨rfl, hE5⟩; first | ((have hE5b : Ext Wb w5 := by assumption); (have hE5' := hEb.trans hE5b); (have h5s := hE5'.size); obtain ⟨r0, r1, rf0, rf1⟩ := HBx.ext hE5b) | ((have hE5' : Ext wr w5 := (Ext.refl wr).drew.trans hE5); (have h5s := hE5'.size); obtain ⟨Wq, hWq, ⟨r0, r1, rf0, rf1⟩, HQ1, -, hE55, hEq⟩ := box_putE w5 (.int .i64 Q.1) (.int .i64 Q.2) 55)))
                    all_goals (go_wp2_with fail; go_meet; first | exact ⟨wr.heap.size, rfl, hE5'.set2 (Nat.le_refl _) _ _, Nat.le_refl _, Box2.putE ⟨r0, r1, rf0, rf1⟩ _ _⟩ | exact ⟨w5.heap.size, rfl, hE5'.trans hEq, h5s, HQ1⟩)
                  case rest =>
                  obtain ⟨cq0, rfl, hE6, hcq0, HQ1⟩ := hcut
                  have hsz6 := hE6.size
                  have hLb6 := hLb.ext hE6
                  have hEk6 := hEk.trans hE6
                  cases an
                  · have hls : leastO x v k = none := by rcases hlst with ⟨h, _⟩ | ⟨_, h, _⟩; cases h; exact h
                    rw [hls] at hstep
                    have hst : LInv x v (k + 1) true Q.1 Q.2 := .inl ⟨rfl, hstep⟩
                    obtain ⟨y0, y1, -, -⟩ := HQ1
                    obtain ⟨z0, z1, zf0, zf1⟩ := hLb6
                    have hput := Box2.putE ⟨z0, z1, zf0, zf1⟩ (.int .i64 Q.1) (.int .i64 Q.2)
                    have hEs := hEk6.set2 (Nat.le_refl _) (.int .i64 Q.1) (.int .i64 Q.2)
                    have hszs : wo.heap.size < cq0 := by omega
                    have Hput := Lib.hid hput
                    clear hput hlst hstep hls
                    go_wp2
                    go_roundw
                    case rel => exact ⟨k + 1, true, Q.1, Q.2, by omega, by go_num, rfl, hEs, Hput.out.lt, Hput.out, hst⟩
                    case measure => simp [intOf]; omega
                  · have hls : leastO x v k = some (lp, lq) := by rcases hlst with ⟨_, h⟩ | ⟨h, _⟩; exact h; cases h
                    rw [hls] at hstep
                    replace hstep : leastO x v (k + 1) = if cmpR Q (lp, lq) < 0 then some Q else some (lp, lq) := hstep
                    obtain ⟨y0, y1, -, -⟩ := HQ1
                    obtain ⟨z0, z1, zf0, zf1⟩ := hLb6
                    have hcmp := fun w' => l01Compare_c Q.1 Q.2 lp lq w' hqs1 hqs2 hls1 hls2
                    have hszs : wo.heap.size < cq0 := by omega
                    generalize hC : cmpR (Q.1, Q.2) (lp, lq) = cq at hcmp
                    have hC2 : cmpR Q (lp, lq) = cq := hC
                    rw [hC2] at hstep
                    have HCmp := Lib.hid hcmp
                    clear hcmp hC hC2 hlst hls
                    by_cases hcq : cq < 0
                    · rw [if_pos hcq] at hstep
                      have hst : LInv x v (k + 1) true Q.1 Q.2 := .inl ⟨rfl, hstep⟩
                      clear hstep
                      go_wp2_with fail
                      refine (HCmp.out _).mono ?_
                      rintro e w7 ⟨rfl, hE7⟩
                      replace y0 := hE7.cell y0
                      replace y1 := hE7.cell y1
                      obtain ⟨z0, z1, zf0, zf1⟩ := (Box2.mk z0 z1 zf0 zf1).ext hE7
                      have hput := Box2.putE ⟨z0, z1, zf0, zf1⟩ (.int .i64 Q.1) (.int .i64 Q.2)
                      have hEs := (hEk6.trans hE7).set2 (Nat.le_refl _) (.int .i64 Q.1) (.int .i64 Q.2)
                      have Hput := Lib.hid hput
                      clear hput
                      go_wp2
                      go_roundw
                      case rel => exact ⟨k + 1, true, Q.1, Q.2, by omega, by go_num, rfl, hEs, Hput.out.lt, Hput.out, hst⟩
                      case measure => simp [intOf]; omega
                    · rw [if_neg hcq] at hstep
                      have hst : LInv x v (k + 1) true lp lq := .inl ⟨rfl, hstep⟩
                      clear hstep
                      go_wp2_with fail
                      refine (HCmp.out _).mono ?_
                      rintro e w7 ⟨rfl, hE7⟩
                      have hLb7 := (Box2.mk z0 z1 zf0 zf1).ext hE7
                      have hEs := hEk6.trans hE7
                      go_wp2
                      go_roundw
                      case rel => exact ⟨k + 1, true, lp, lq, by omega, by go_num, rfl, hEs, hLb7.lt, hLb7, hst⟩
                      case measure => simp [intOf]; omega
              · obtain rfl : k = x.length := by omega
                have hbstep : bestO x (v + 1) = match bestO x v with | none => some (lp, lq) | some b => if 0 < cmpR (lp, lq) b then some (lp, lq) else some b := by
                  have hd : (leastO x v x.length).getD (0, 0) = (lp, lq) := by
                    rcases hlst with ⟨_, h⟩ | ⟨_, h, h1, h2⟩
                    · rw [h]; rfl
                    · rw [h, h1, h2]; rfl
                  simp only [bestO]; rw [if_neg HTB.out, hd]
                have hlsm : SmR (lp, lq) := by
                  rcases hlst with ⟨_, h⟩ | ⟨_, _, h1, h2⟩
                  · exact leastO_sm HX.out.2.2 hltv HTB.out _ hk _ h
                  · rw [h1, h2]; exact ⟨by decide, by decide⟩
                obtain ⟨hls1, hls2⟩ := hlsm
                simp only at hls1 hls2
                obtain ⟨z0, z1, zf0, zf1⟩ := hLb
                have hBb2 := hBb.ext hEk
                have hEvk := hEv.trans hEk
                have hne : wt.heap.size ≠ wo.heap.size := by omega
                cases fb
                · have hbn : bestO x v = none := by rcases hbst with ⟨h, _⟩ | ⟨_, h, _⟩; cases h; exact h
                  rw [hbn] at hbstep
                  have hst : BInv x (v + 1) true lp lq := .inl ⟨rfl, hbstep⟩
                  obtain ⟨b0, b1, bf0, bf1⟩ := hBb2
                  have hput := Box2.putE ⟨b0, b1, bf0, bf1⟩ (.int .i64 lp) (.int .i64 lq)
                  have hEs := hEvk.set2 (Nat.le_refl _) (.int .i64 lp) (.int .i64 lq)
                  have Hput := Lib.hid hput
                  clear hput hbstep hbn hbst hlst
                  go_wp2
                  go_roundw
                  case rel => exact ⟨v + 1, true, lp, lq, by omega, by go_num, rfl, hEs, Hput.out.lt, Hput.out, hst⟩
                  case measure => simp [intOf]; omega
                · have hbn : bestO x v = some (bp, bq) := by rcases hbst with ⟨_, h⟩ | ⟨h, _⟩; exact h; cases h
                  rw [hbn] at hbstep
                  replace hbstep : bestO x (v + 1) = if 0 < cmpR (lp, lq) (bp, bq) then some (lp, lq) else some (bp, bq) := hbstep
                  have hbsm := bestO_sm HX.out.2.2 v hv _ hbn
                  obtain ⟨hbs1, hbs2⟩ := hbsm
                  simp only at hbs1 hbs2
                  obtain ⟨b0, b1, bf0, bf1⟩ := hBb2
                  have hcmp := fun w' => l01Compare_c lp lq bp bq w' hls1 hls2 hbs1 hbs2
                  generalize cmpR (lp, lq) (bp, bq) = cq at *
                  have HCmp := Lib.hid hcmp
                  clear hcmp hbn hbst hlst
                  by_cases hcq : 0 < cq
                  · simp only [if_pos hcq] at hbstep
                    have hst : BInv x (v + 1) true lp lq := .inl ⟨rfl, hbstep⟩
                    clear hbstep
                    go_wp2_with fail
                    refine (HCmp.out _).mono ?_
                    rintro e w7 ⟨rfl, hE7⟩
                    replace z0 := hE7.cell z0
                    replace z1 := hE7.cell z1
                    obtain ⟨b0, b1, bf0, bf1⟩ := (Box2.mk b0 b1 bf0 bf1).ext hE7
                    have hput := Box2.putE ⟨b0, b1, bf0, bf1⟩ (.int .i64 lp) (.int .i64 lq)
                    have hEs := (hEvk.trans hE7).set2 (Nat.le_refl _) (.int .i64 lp) (.int .i64 lq)
                    have Hput := Lib.hid hput
                    clear hput
                    go_wp2
                    go_roundw
                    case rel => exact ⟨v + 1, true, lp, lq, by omega, by go_num, rfl, hEs, Hput.out.lt, Hput.out, hst⟩
                    case measure => simp [intOf]; omega
                  · simp only [if_neg hcq] at hbstep
                    have hst : BInv x (v + 1) true bp bq := .inl ⟨rfl, hbstep⟩
                    clear hbstep
                    go_wp2_with fail
                    refine (HCmp.out _).mono ?_
                    rintro e w7 ⟨rfl, hE7⟩
                    have hBb7 := (Box2.mk b0 b1 bf0 bf1).ext hE7
                    have hEs := hEvk.trans hE7
                    go_wp2
                    go_roundw
                    case rel => exact ⟨v + 1, true, bp, bq, by omega, by go_num, rfl, hEs, hBb7.lt, hBb7, hst⟩
                    case measure => simp [intOf]; omega
        · obtain rfl : v = x.length := by omega
          have hres : (bestO x x.length).getD (0, 0) = (bp, bq) ∧ (bestO x x.length).isSome = fb := by
            rcases hbst with ⟨h1, h2⟩ | ⟨h1, h2, h3, h4⟩
            · rw [h2, h1]; exact ⟨rfl, rfl⟩
            · rw [h2, h1, h3, h4]; exact ⟨rfl, rfl⟩
          have HRe := Lib.hid hres
          obtain ⟨b0, b1, bf0, bf1⟩ := hBb
          obtain ⟨g0, g1, gf0, gf1⟩ := HRs.out.ext (hE.trans hEv)
          have hEE := (hE0.trans hE).trans hEv
          clear hres hbst
          go_wp2
          refine bodyPost_ret (v := .tuple #[.agg #[.int .i64 bp, .int .i64 bq], .bool fb]) (by simp [results, Try.results109, go_sem, g0, g1]) rfl ⟨?_, ?_⟩
          · rw [HRe.out.1, HRe.out.2]
          · repeat (first | exact hEE | refine Ext.set ?_ (Nat.le_refl _) _)

set_option maxHeartbeats 400000 in
theorem implCycMean_c (a : Option Addr) (ca : Nat) (x : List (List Int)) (w : World) (hx : MatAt w a x) :
    Calls Try.prog 43 #[.slice a x.length ca] w fun e w' => e = .returned (.tuple #[.agg #[.int .i64 ((tabV x).1).1, .int .i64 ((tabV x).1).2], .int .i64 (tabV x).2]) ∧ Ext w w' := by
  obtain ⟨W, hW, HB, hs1, hE⟩ := alloc2_facts w (.int .i64 0) (.int .i64 0) 55
  have hE1' : Ext W W := Ext.refl W
  have HX := Lib.hid hx
  clear hx
  cases hs : isSq x
  · have e : tabV x = ((0, 0), 1) := by simp [tabV, hs]
    rw [e]; clear e
    go_enter Try.func43, Try.ntmps43
    go_wp2_with fail
    refine (asB hs (isSquare_c _ _ _ _ (HX.out.mono hE))).mono ?_
    rintro e w1 ⟨rfl, E1⟩
    replace E1 := E1
    obtain ⟨d0, d1, g0, g1⟩ := HB.ext E1
    have hEE := hE.trans E1
    go_wp2
    refine bodyPost_ret (v := .tuple #[.agg #[.int .i64 (0), .int .i64 (0)], .int .i64 (1)]) (by simp [results, Try.results43, go_sem, d0, d1]) rfl ⟨rfl, ?_⟩
    repeat (first | exact hEE | refine Ext.set ?_ (Nat.le_refl _) _)
  have HW := Lib.hid (fun w' (h : Ext w w') => cycleMean_c a ca x w' (HX.out.mono h) hs)
  cases hw : bestO x x.length with
  | none =>
    have e : tabV x = ((0, 0), 4) := by simp [tabV, hs, hw, optT]
    rw [e]; clear e
    rw [hw] at HW
    simp only [Option.getD_none, Option.isSome_none] at HW
    clear hw
    go_enter Try.func43, Try.ntmps43
    go_wp2_with fail
    refine (asB hs (isSquare_c _ _ _ _ (HX.out.mono hE))).mono ?_
    rintro e w1 ⟨rfl, E1⟩
    replace E1 := E1
    have hEE := hE.trans E1
    go_wp2_with fail
    refine (HW.out _ hEE).mono ?_
    rintro e w2 ⟨rfl, E2⟩
    obtain ⟨W3, hW3, HC, HC2, hs4, hE4, hE5⟩ := box_putE w2 (.int .i64 0) (.int .i64 0) 55
    obtain ⟨q0, q1, p0, p1⟩ := HC
    obtain ⟨d0, d1, g0, g1⟩ := HB.ext ((E1.trans E2).trans hE5)
    have hE6 := (hEE.trans E2).trans hE5
    have hne : w2.heap.size ≠ w.heap.size := by have := hE1'.size; have := E1.size; have := E2.size; omega
    clear HC2
    go_wp2
    refine bodyPost_ret (v := .tuple #[.agg #[.int .i64 (0), .int .i64 (0)], .int .i64 (4)]) (by simp [results, Try.results43, go_sem, d0, d1]) rfl ⟨rfl, ?_⟩
    repeat (first | exact hE6 | refine Ext.set ?_ (Nat.le_refl _) _)
  | some R =>
    have e : tabV x = chkR R := by simp [tabV, hs, hw, optT]
    rw [e]; clear e
    rw [hw] at HW
    simp only [Option.getD_some, Option.isSome_some] at HW
    clear hw
    go_enter Try.func43, Try.ntmps43
    go_wp2_with fail
    refine (asB hs (isSquare_c _ _ _ _ (HX.out.mono hE))).mono ?_
    rintro e w1 ⟨rfl, E1⟩
    replace E1 := E1
    have hEE := hE.trans E1
    go_wp2_with fail
    refine (HW.out _ hEE).mono ?_
    rintro e w2 ⟨rfl, E2⟩
    obtain ⟨W3, hW3, HC, HC2, hs4, hE4, hE5⟩ := box_putE w2 (.int .i64 R.1) (.int .i64 R.2) 55
    obtain ⟨q0, q1, p0, p1⟩ := HC
    have hne : w2.heap.size ≠ w.heap.size := by have := hE1'.size; have := E1.size; have := E2.size; omega
    go_wp2_with fail
    refine (checkedRatio_c R.1 R.2 _).mono ?_
    rintro e w4 ⟨rfl, E4⟩
    obtain ⟨d0, d1, g0, g1⟩ := HB.ext (((E1.trans E2).trans hE5).trans E4)
    have hE6 := ((hEE.trans E2).trans hE5).trans E4
    go_wp2
    refine bodyPost_ret (v := .tuple #[.agg #[.int .i64 ((chkR R).1.1), .int .i64 ((chkR R).1.2)], .int .i64 (chkR R).2]) (by simp [results, Try.results43, go_sem, d0, d1]) rfl ⟨rfl, ?_⟩
    repeat (first | exact hE6 | refine Ext.set ?_ (Nat.le_refl _) _)

set_option maxHeartbeats 400000 in
theorem specTab_c (a : Option Addr) (ca : Nat) (x : List (List Int)) (w : World) (hx : MatAt w a x) :
    Calls Try.prog 46 #[.slice a x.length ca] w fun e w' => e = .returned (.tuple #[.agg #[.int .i64 ((tabV x).1).1, .int .i64 ((tabV x).1).2], .int .i64 (tabV x).2]) ∧ Ext w w' := by
  obtain ⟨W, hW, HB, hs1, hE⟩ := alloc2_facts w (.int .i64 0) (.int .i64 0) 55
  have hE1' : Ext W W := Ext.refl W
  have HX := Lib.hid hx
  clear hx
  cases hs : isSq x
  · have e : tabV x = ((0, 0), 1) := by simp [tabV, hs]
    rw [e]; clear e
    go_enter Try.func46, Try.ntmps46
    go_wp2_with fail
    refine (asB hs (l02Square_c _ _ _ _ (HX.out.mono hE))).mono ?_
    rintro e w1 ⟨rfl, E1⟩
    replace E1 := E1.ext
    obtain ⟨d0, d1, g0, g1⟩ := HB.ext E1
    have hEE := hE.trans E1
    go_wp2
    refine bodyPost_ret (v := .tuple #[.agg #[.int .i64 (0), .int .i64 (0)], .int .i64 (1)]) (by simp [results, Try.results46, go_sem, d0, d1]) rfl ⟨rfl, ?_⟩
    repeat (first | exact hEE | refine Ext.set ?_ (Nat.le_refl _) _)
  have HW := Lib.hid (fun w' (h : Ext w w') => l04Table_c a ca x w' (HX.out.mono h) hs)
  cases hw : bestO x x.length with
  | none =>
    have e : tabV x = ((0, 0), 4) := by simp [tabV, hs, hw, optT]
    rw [e]; clear e
    rw [hw] at HW
    simp only [Option.getD_none, Option.isSome_none] at HW
    clear hw
    go_enter Try.func46, Try.ntmps46
    go_wp2_with fail
    refine (asB hs (l02Square_c _ _ _ _ (HX.out.mono hE))).mono ?_
    rintro e w1 ⟨rfl, E1⟩
    replace E1 := E1.ext
    have hEE := hE.trans E1
    go_wp2_with fail
    refine (HW.out _ hEE).mono ?_
    rintro e w2 ⟨rfl, E2⟩
    obtain ⟨W3, hW3, HC, HC2, hs4, hE4, hE5⟩ := box_putE w2 (.int .i64 0) (.int .i64 0) 55
    obtain ⟨q0, q1, p0, p1⟩ := HC
    obtain ⟨d0, d1, g0, g1⟩ := HB.ext ((E1.trans E2).trans hE5)
    have hE6 := (hEE.trans E2).trans hE5
    have hne : w2.heap.size ≠ w.heap.size := by have := hE1'.size; have := E1.size; have := E2.size; omega
    clear HC2
    go_wp2
    refine bodyPost_ret (v := .tuple #[.agg #[.int .i64 (0), .int .i64 (0)], .int .i64 (4)]) (by simp [results, Try.results46, go_sem, d0, d1]) rfl ⟨rfl, ?_⟩
    repeat (first | exact hE6 | refine Ext.set ?_ (Nat.le_refl _) _)
  | some R =>
    have e : tabV x = chkR R := by simp [tabV, hs, hw, optT]
    rw [e]; clear e
    rw [hw] at HW
    simp only [Option.getD_some, Option.isSome_some] at HW
    clear hw
    go_enter Try.func46, Try.ntmps46
    go_wp2_with fail
    refine (asB hs (l02Square_c _ _ _ _ (HX.out.mono hE))).mono ?_
    rintro e w1 ⟨rfl, E1⟩
    replace E1 := E1.ext
    have hEE := hE.trans E1
    go_wp2_with fail
    refine (HW.out _ hEE).mono ?_
    rintro e w2 ⟨rfl, E2⟩
    obtain ⟨W3, hW3, HC, HC2, hs4, hE4, hE5⟩ := box_putE w2 (.int .i64 R.1) (.int .i64 R.2) 55
    obtain ⟨q0, q1, p0, p1⟩ := HC
    have hne : w2.heap.size ≠ w.heap.size := by have := hE1'.size; have := E1.size; have := E2.size; omega
    go_wp2_with fail
    refine (l04Result_c R.1 R.2 _).mono ?_
    rintro e w4 ⟨rfl, E4⟩
    obtain ⟨d0, d1, g0, g1⟩ := HB.ext (((E1.trans E2).trans hE5).trans E4)
    have hE6 := ((hEE.trans E2).trans hE5).trans E4
    go_wp2
    refine bodyPost_ret (v := .tuple #[.agg #[.int .i64 ((chkR R).1.1), .int .i64 ((chkR R).1.2)], .int .i64 (chkR R).2]) (by simp [results, Try.results46, go_sem, d0, d1]) rfl ⟨rfl, ?_⟩
    repeat (first | exact hE6 | refine Ext.set ?_ (Nat.le_refl _) _)

theorem implTab_c (a : Option Addr) (ca : Nat) (x : List (List Int)) (w : World) (hx : MatAt w a x) :
    Calls Try.prog 45 #[.slice a x.length ca] w fun e w' => e = .returned (.tuple #[.agg #[.int .i64 ((tabV x).1).1, .int .i64 ((tabV x).1).2], .int .i64 (tabV x).2]) ∧ Ext w w' := by
  obtain ⟨W, hW, HB, hs1, hE⟩ := alloc2_facts w (.int .i64 0) (.int .i64 0) 55
  have HX := Lib.hid hx
  clear hx
  obtain ⟨V, hV⟩ : ∃ V, tabV x = V := ⟨_, rfl⟩
  rw [hV]
  have HV := Lib.hid hV
  clear hV
  go_enter Try.func45, Try.ntmps45
  go_wp2_with fail
  refine (implCycMean_c _ _ _ _ (HX.out.mono hE)).mono ?_
  rw [HV.out]
  rintro e w1 ⟨rfl, E1⟩
  obtain ⟨d0, d1, g0, g1⟩ := HB.ext E1
  have hEE := hE.trans E1
  go_wp2
  refine bodyPost_ret (v := .tuple #[.agg #[.int .i64 (V.1.1), .int .i64 (V.1.2)], .int .i64 (V.2)]) (by simp [results, Try.results45, go_sem, d0, d1]) rfl ⟨rfl, ?_⟩
  repeat (first | exact hEE | refine Ext.set ?_ (Nat.le_refl _) _)
end Go.Proofs.Ytokhkpbebimohaa
