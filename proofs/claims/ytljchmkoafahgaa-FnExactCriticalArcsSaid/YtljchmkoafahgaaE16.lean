/- Contracts of CriticalArcs and CriticalMatrix, the program's and the reference's. Conditions: the forms of the matrices. -/
import Derived.Test.YtljchmkoafahgaaE15
namespace Go.Proofs.Ytljchmkoafahgaa
set_option linter.unusedVariables false
set_option linter.unusedSimpArgs false
open Go.RowKit

theorem OwnI.lit2 (w : World) (x y : Int) : OwnI (w.alloc (.cells #[.int .i64 x, .int .i64 y] 2)) w.heap.size (.slice (some ⟨w.heap.size, 0, none⟩) 2 2) [x, y] :=
  World.ownsRow_lit w #[.int .i64 x, .int .i64 y] 2 (Nat.le_refl _) (by decide) rfl
/-- the arcs from j to the nodes below t, as lists of two; those from the nodes below k -/
def arcR (K : Nat → Nat → Bool) (j : Nat) : Nat → List (List Int)
  | 0 => []
  | t + 1 => if K t j then arcR K j t ++ [[(j : Int), (t : Int)]] else arcR K j t
def arcsM (K : Nat → Nat → Bool) (n : Nat) : Nat → List (List Int)
  | 0 => []
  | k + 1 => arcsM K n k ++ arcR K k n
theorem arcR_len (K : Nat → Nat → Bool) (j t : Nat) : (arcR K j t).length ≤ t := by
  induction t with
  | zero => exact Nat.le_refl _
  | succ t ih =>
    simp only [arcR]; split
    · rw [List.length_append]; simp; omega
    · omega
theorem arcsM_len (K : Nat → Nat → Bool) (n k : Nat) : (arcsM K n k).length ≤ k * n := by
  induction k with
  | zero => simp [arcsM]
  | succ k ih =>
    simp only [arcsM, List.length_append]
    have := arcR_len K k n
    rw [Nat.succ_mul]; omega
theorem arcR_mem {K : Nat → Nat → Bool} {j t : Nat} {l : List Int} : l ∈ arcR K j t ↔ ∃ i, i < t ∧ K i j = true ∧ l = [(j : Int), (i : Int)] := by
  induction t with
  | zero => simp [arcR]
  | succ t ih =>
    simp only [arcR]
    by_cases h : K t j = true
    · rw [if_pos h, List.mem_append, ih]
      constructor
      · rintro (⟨i, h1, h2, h3⟩ | h1)
        · exact ⟨i, by omega, h2, h3⟩
        · exact ⟨t, by omega, h, by simpa using h1⟩
      · rintro ⟨i, h1, h2, h3⟩
        by_cases e : i = t
        · subst e; right; simpa using h3
        · left; exact ⟨i, by omega, h2, h3⟩
    · rw [if_neg h, ih]
      constructor
      · rintro ⟨i, h1, h2, h3⟩; exact ⟨i, by omega, h2, h3⟩
      · rintro ⟨i, h1, h2, h3⟩
        by_cases e : i = t
        · subst e; exact absurd h2 h
        · exact ⟨i, by omega, h2, h3⟩
theorem arcsM_mem {K : Nat → Nat → Bool} {n k : Nat} {l : List Int} : l ∈ arcsM K n k ↔ ∃ i j, i < n ∧ j < k ∧ K i j = true ∧ l = [(j : Int), (i : Int)] := by
  induction k with
  | zero => simp [arcsM]
  | succ k ih =>
    simp only [arcsM, List.mem_append]
    rw [ih, arcR_mem]
    constructor
    · rintro (⟨i, j, h1, h2, h3, h4⟩ | ⟨i, h1, h2, h3⟩)
      · exact ⟨i, j, h1, by omega, h3, h4⟩
      · exact ⟨i, k, h1, by omega, h2, h3⟩
    · rintro ⟨i, j, h1, h2, h3, h4⟩
      by_cases e : j = k
      · subst e; right; exact ⟨i, h1, h3, h4⟩
      · left; exact ⟨i, j, h1, by omega, h3, h4⟩
/-- entry k of such a list -/
theorem arcsM_at {K : Nat → Nat → Bool} {n : Nat} {k : Nat} (hk : k < (arcsM K n n).length) : ∃ i j, i < n ∧ j < n ∧ K i j = true ∧ row (arcsM K n n) k = [(j : Int), (i : Int)] := by
  rw [row_of_lt hk]
  exact arcsM_mem.1 (List.getElem_mem hk)
theorem arcsM_tot (K : Nat → Nat → Bool) (n : Nat) (hn : n ≤ 10) : tot (arcsM K n n) ≤ 1000000 := by
  have hl := arcsM_len K n n
  have hm : n * n ≤ 100 := Nat.mul_le_mul hn hn
  have : ∀ (m : List (List Int)), (∀ l ∈ m, l.length = 2) → tot m ≤ m.length * 2 := by
    intro m
    induction m with
    | nil => intro _; simp [tot]
    | cons l m ih =>
      intro h
      have h1 := h l (by simp)
      have h2 := ih fun x hx => h x (by simp [hx])
      have e : tot (l :: m) = l.length + tot m := by simp [tot]
      rw [e, List.length_cons]; omega
  have h2 := this (arcsM K n n) fun l hl => by obtain ⟨i, j, _, _, _, rfl⟩ := arcsM_mem.1 hl; rfl
  omega
def keepX (x : List (List Int)) (R : Int × Int) (i j : Nat) : Bool := keepB (shiftM x R.1 R.2) (starM (shiftM x R.1 R.2) x.length) i j
def arcsV (x : List (List Int)) : List (List Int) × Int := if isSq x then (match bestO x x.length with | none => ([], 4) | some R => (arcsM (keepX x R) x.length x.length, 0)) else ([], 1)
theorem arcsV_tot (x : List (List Int)) : tot (arcsV x).1 ≤ 1000000 := by
  unfold arcsV
  split
  · rename_i h
    have := isSq_rect h
    split
    · simp [tot]
    · exact arcsM_tot _ _ (by omega)
  · simp [tot]

set_option maxHeartbeats 1000000 in
theorem implArcs_c (a : Option Addr) (ca : Nat) (x : List (List Int)) (w : World) (hx : MatAt w a x) : Calls Try.prog 32 #[.slice a x.length ca] w (GivesM2 w (arcsV x).1 (arcsV x).2) := by
  have hC := criticalOf_c a ca x w hx
  cases hs : isSq x
  · have e : arcsV x = ([], 1) := by simp [arcsV, hs]
    rw [e]; clear e
    have e : critV x = ([], 1) := by simp [critV, hs]
    rw [e] at hC
    have HC := Lib.hid hC
    clear hC e hx
    go_enter Try.func32, Try.ntmps32
    go_wp2_with fail
    refine HC.out.mono ?_
    rintro e w1 ⟨a1, c1, rfl, hO, E1⟩
    go_wp2
    go_ret2
    exact ⟨none, 0, rfl, .inl ⟨rfl, rfl⟩, E1⟩
  cases hb : bestO x x.length with
  | none =>
    have e : arcsV x = ([], 4) := by simp [arcsV, hs, hb]
    rw [e]; clear e
    have e : critV x = ([], 4) := by simp [critV, hs, hb]
    rw [e] at hC
    have HC := Lib.hid hC
    clear hC e hx hb
    go_enter Try.func32, Try.ntmps32
    go_wp2_with fail
    refine HC.out.mono ?_
    rintro e w1 ⟨a1, c1, rfl, hO, E1⟩
    go_wp2
    go_ret2
    exact ⟨none, 0, rfl, .inl ⟨rfl, rfl⟩, E1⟩
  | some R =>
    have e : arcsV x = (arcsM (keepX x R) x.length x.length, 0) := by simp [arcsV, hs, hb]
    rw [e]; clear e
    have e : critV x = (critM x R, 0) := by simp [critV, hs, hb]
    rw [e] at hC
    have hne : ∀ i j, i < x.length → j < x.length → (ent (critM x R) i j != -1000000000000000) = keepX x R i j := fun i j hi hj => by
      unfold keepX
      cases hk : keepB (shiftM x R.1 R.2) (starM (shiftM x R.1 R.2) x.length) i j
      · have : ¬ ent (critM x R) i j ≠ -1000000000000000 := fun h => by rw [(crit_ne hs hb hi hj).1 h] at hk; cases hk
        simp [Classical.not_not.1 this]
      · simpa using (crit_ne hs hb hi hj).2 hk
    have hr := isSq_rect (crit_sq hs (R := R))
    have hl := isSq_rect hs
    rw [critM_len] at hr
    have hcl : (critM x R).length = x.length := critM_len x R
    obtain ⟨n, hn⟩ : ∃ n, x.length = n := ⟨_, rfl⟩
    rw [hn] at hC hne hr hl hcl ⊢
    have HC := Lib.hid hC
    have HN := Lib.hid hne
    have HR := Lib.hid (And.intro hr.1 hcl)
    clear hC e hx hb hs hr hne hcl
    generalize keepX x R = K at *
    generalize critM x R = Y at *
    go_enter Try.func32, Try.ntmps32
    go_wp2_with fail
    refine HC.out.mono ?_
    rintro e w1 ⟨a1, c1, rfl, hOc, E1⟩
    rw [HR.out.2]
    have hM := hOc.mat
    obtain ⟨p, o, rfl⟩ := hM.base (by rw [HR.out.2]; omega)
    have HM := Lib.hid hM
    have hO0 := OwnM.nil w1 w1.heap.size
    clear hOc hM
    go_wp2
    go_loopw [6, 19] (fun s i wr => ∃ (k : Nat), k ≤ n ∧ i = .int .i64 k ∧ Ext w1 wr ∧ OwnM wr w1.heap.size s (arcsM K n k)) (fun _ i _ => n - (intOf i).toNat)
    case atStart => exact ⟨0, Nat.zero_le _, rfl, Ext.refl _, hO0⟩
    case round =>
      obtain ⟨k, hk, rfl, hE, hO⟩ := hrel
      clear hO0
      by_cases hlt : k < n
      · have e0 : arcsM K n k = arcsM K n k ++ arcR K k 0 := by simp [arcR]
        rw [e0] at hO
        have hE00 := hE
        go_wp2
        go_loopw [6, 24] (fun s i wr => ∃ (t : Nat), t ≤ n ∧ i = .int .i64 t ∧ Ext w1 wr ∧ OwnM wr w1.heap.size s (arcsM K n k ++ arcR K k t)) (fun _ i _ => n - (intOf i).toNat)
        case atStart => exact ⟨0, Nat.zero_le _, rfl, hE, hO⟩
        case round =>
          obtain ⟨t, ht, rfl, hE2, hO2⟩ := hrel
          clear hO hE e0
          by_cases hltn : t < n
          · obtain ⟨q, o2, c, d1, dd, -⟩ := HM.out.hdr HR.out.1 hltn (by omega)
            have d2 := hE2.cell (dd k hlt)
            replace d1 := hE2.cell d1
            have hKb := HN.out t k hltn hlt
            clear dd
            generalize ent Y t k = z at *
            cases hkb : K t k
            · have Hst := Lib.hid (show arcR K k (t + 1) = arcR K k t by simp [arcR, hkb])
              rw [hkb] at hKb
              clear hkb
              go_wp2
              go_roundw
              case rel => exact ⟨t + 1, by omega, by go_num, hE2, by rw [Hst.out]; exact hO2⟩
              case measure => simp [intOf]; omega
            · have Hst := Lib.hid (show arcR K k (t + 1) = arcR K k t ++ [[(k : Int), (t : Int)]] by simp [arcR, hkb])
              rw [hkb] at hKb
              have hln : (arcsM K n k ++ arcR K k t).length ≤ 1000000000 := by
                have h1 := arcsM_len K n k; have h2 := arcR_len K k t
                have h3 : k * n ≤ 10 * 10 := Nat.mul_le_mul (by omega) hl.2.2
                rw [List.length_append]; omega
              have hr7 := OwnI.lit2 wr (k : Int) (t : Int)
              have hE7 := (Ext.refl wr).alloc (.cells #[.int .i64 (k : Int), .int .i64 (t : Int)] 2)
              have hE8 := hE7.alloc (.cells #[.slice (some ⟨wr.heap.size, 0, none⟩) 2 2] 32)
              have hr8 := hr7.ext ((Ext.refl _).alloc (.cells #[.slice (some ⟨wr.heap.size, 0, none⟩) 2 2] 32))
              have hc9 : ((wr.alloc (.cells #[.int .i64 (k : Int), .int .i64 (t : Int)] 2)).alloc (.cells #[.slice (some ⟨wr.heap.size, 0, none⟩) 2 2] 32)).cell? ⟨wr.heap.size + 1, 0, none⟩ = some (.slice (some ⟨wr.heap.size, 0, none⟩) [(k : Int), (t : Int)].length 2) := by simp
              have hsz := hE2.size
              clear hkb
              go_wp2_with (at_builtin; refine app_m rfl _ _ rfl w1.heap.size _ _ rfl hO2 hE8 ⟨wr.heap.size + 1, 0, none⟩ 1 (some ⟨wr.heap.size, 0, none⟩) 2 [(k : Int), (t : Int)] rfl hc9 hr8 hln hsz ?_)
              intro v' w' hO4 hg
              have hEg := Ext.grown (hE2.trans hE8) hg (fun b hb => hO2.base b hb)
              go_wp2
              go_roundw
              case rel => exact ⟨t + 1, by omega, by go_num, hEg, by rw [Hst.out]; exact hO4⟩
              case measure => simp [intOf]; omega
          · obtain rfl : n = t := by omega
            go_wp2
            go_roundw
            case rel => exact ⟨k + 1, by omega, by go_num, hE2, hO2⟩
            case measure => simp [intOf]; omega
      · obtain rfl : n = k := by omega
        go_wp2
        go_ret2
        obtain ⟨a', cap', rfl, _⟩ := hO.at
        exact ⟨a', cap', rfl, hO.mono E1.size, E1.trans hE⟩
end Go.Proofs.Ytljchmkoafahgaa
