/- Contracts of spec.l03Cycle, IsCycle, CycleWeight. Conditions: the forms of the matrices, the lengths of the lists. -/
import Derived.Test.YtljchmkoafahgaaM10
import Derived.Test.YtljchmkoafahgaaM6
import Derived.Test.YtljchmkoafahgaaB3
import Derived.Deep.AppendLies
import Derived.Deep.RegionLaw
namespace Go.Proofs.Ytljchmkoafahgaa
set_option linter.unusedVariables false
set_option linter.unusedSimpArgs false
open Go.RowKit

/-- append of one integer, as a step of a region that draws -/
theorem step_app_i {ops : Array Oper} {o : Oper} {a : Act} {K : Act → World → Prop} {Q : Exit → Act → World → Prop} {E : Prop} {w : World} (hgd : o.guard = none) (s x : Operand)
    (ho : o.op = .call { callee := .builtin .append, args := #[s, x], argTypes := #[32, 32] })
    (B : Nat) (v : Value) (xs : List Int) (hs : a.eval s = v) (hown : OwnI w B v xs) (ad : Addr) (c : Nat) (y : Int) (hx : a.eval x = .slice (some ad) 1 c) (hc : w.cell? ad = some (.int .i64 y))
    (hl : xs.length ≤ 1000000000) (hB : B ≤ w.heap.size)
    (h : ∀ v' w', OwnI w' B v' (xs ++ [y]) → w.grownBy w' v.ownBlock → K (a.put o.dst v') w') :
    if Region.wanted o (yielded ops a.tmps) = true then Oper.wp Try.prog o a w K Q else E := by
  obtain ⟨i0, hi, hz0, hz1, hz2⟩ := info_parts info_i
  refine step_append_lies w hgd s x 32 ho B 2 i0 (.int .i64 0) 1 8 Try.underlying32 hi hz0 hz1 hz2 rfl (by decide) v xs.length (xs.map (Value.int .i64)) hs hown ad 1 c [.int .i64 y] hx rfl ?_ ?_ (by decide) ?_ ?_ hB _ rfl ?_
  · intro j u hj
    match j, hj with
    | 0, hj =>
      simp only [List.getElem?_cons_zero, Option.some.injEq] at hj
      subst hj
      have : ad.add 0 = ad := by simp [Addr.add]
      rw [this]; exact hc
  · intro u hu; simp only [List.mem_singleton] at hu; subst hu; rfl
  · have : maxLen = 9223372036854775807 := rfl
    omega
  · omega
  · intro g cap w' h1 h2 _ _
    refine h _ w' ?_ h2
    unfold OwnI
    simpa using h1

set_option maxHeartbeats 2000000 in
theorem l03Cycle_c {B : Nat} (a b : Option Addr) (ca cb : Nat) (x : List (List Int)) (xs : List Int) (w : World) (hx : MatAt w a x) (hs : isSq x = true) (hy : OwnI w B (.slice b xs.length cb) xs) (hl : xs.length ≤ 1048576) :
    Calls Try.prog 117 #[.slice a x.length ca, .slice b xs.length cb] w fun e w' => e = .returned (.tuple #[.int .i64 ((cycleO x xs).getD 0), .bool (cycleO x xs).isSome]) ∧ Ext w w' := by
  have hxl := hx.len
  rcases hy.form with ⟨h1, h2⟩ | ⟨g, cap, h1, hBg, hg, hle, hmx, -, -⟩
  · subst h2
    simp only [Value.slice.injEq] at h1
    obtain ⟨rfl, _, rfl⟩ := h1
    have e : cycleO x [] = none := rfl
    rw [e]; clear e
    go_enter Try.func117, Try.ntmps117
    go_wp2
    go_ret2
    exact ⟨rfl, Ext.refl _⟩
  simp only [Value.slice.injEq, Option.some.injEq, Addr.mk.injEq, and_true, true_and] at h1
  obtain ⟨rfl, rfl⟩ := h1
  have hyi := hy.ints
  have hnc := hy.nocap
  by_cases h0 : xs.length = 0
  · have e : cycleO x xs = none := by unfold cycleO; rw [if_pos h0]
    rw [e]; clear e
    rw [h0]
    go_enter Try.func117, Try.ntmps117
    go_wp2
    go_ret2
    exact ⟨rfl, Ext.refl _⟩
  have hpos : 0 < xs.length := by omega
  have eq1 : ((xs.length : Int) == 0) = false := by rw [beq_eq_false_iff_ne]; omega
  cases hn : nodes x.length xs
  · have e := cycle_bad1 hn
    rw [e]; clear e
    clear hnc
    go_enter Try.func117, Try.ntmps117
    go_wp2_with fail
    refine (asB hn (l03Nodes_c _ _ _ _ _ _ _ hyi hxl)).mono ?_
    rintro e w2 ⟨rfl, rfl⟩
    go_wp2
    go_ret2
    exact ⟨rfl, Ext.refl _⟩
  have HY := Lib.hid (And.intro hyi (And.intro hx (And.intro hs hn)))
  have HN := Lib.hid hnc
  clear hnc hx hs
  go_enter Try.func117, Try.ntmps117
  go_wp2_with fail
  refine (asB hn (l03Nodes_c _ _ _ _ _ _ _ hyi hxl)).mono ?_
  rintro e w2 ⟨rfl, rfl⟩
  clear hn hyi hy
  go_wp2
  go_loopw [6] (fun i wr => ∃ k : Nat, k ≤ xs.length ∧ i = .int .i64 k ∧ Qt w wr ∧ Hid (∀ j, j < k → has (xs.take j) (nth xs j) = false)) (fun i _ => xs.length - (intOf i).toNat)
  case atStart => exact ⟨0, Nat.zero_le _, rfl, Qt.refl _, fun j hj => absurd hj (Nat.not_lt_zero _)⟩
  case round =>
    obtain ⟨k, hk, rfl, hq, hj⟩ := hrel
    by_cases hlt : k < xs.length
    · have c1 := (HY.out.1.qt hq).cell hlt
      rw [Nat.zero_add] at c1
      have htk : (xs.take k).length = k := by simp; omega
      have hCo := fun w' (h : Qt w w') => l01Has_c (some ⟨g, 0, none⟩) cb (xs.take k) (nth xs k) w' ((HY.out.1.qt h).take k (by omega))
      rw [htk] at hCo
      have HC := Lib.hid hCo
      have hkc : k ≤ cb := by omega
      clear hCo htk
      cases s3 : has (xs.take k) (nth xs k)
      · have S3 := Lib.hid s3
        clear s3
        go_wp2_with fail
        go_big_quiet ((go_at_call 129; exact quiet_pure (asB S3.out (HC.out _ (hq.drewN _)))))
        go_wp2
        go_roundw
        case rel => exact ⟨k + 1, by omega, by go_num, hq.drewN _, fun j h => by
          by_cases e : j = k
          · subst e; exact S3.out
          · exact hj.out j (by omega)⟩
        case measure => simp [intOf]; omega
      · have hno := cycle_bad2 (a := x) hlt s3
        have Hno := Lib.hid hno
        have S3 := Lib.hid s3
        clear s3 hno
        go_wp2_with fail
        go_big_quiet ((go_at_call 129; exact quiet_pure (asB S3.out (HC.out _ (hq.drewN _)))))
        go_wp2
        go_ret2
        rw [Hno.out]; exact ⟨rfl, (hq.drewN _).ext⟩
    · have ho : once xs := fun i hi => hj.out i (by omega)
      have hgd := cycle_good hpos HY.out.2.2.2 ho
      unfold sCyc at hgd
      have c0 := (HY.out.1.qt hq).cell hpos
      rw [Nat.zero_add] at c0
      have hnn : nodes x.length (xs ++ [nth xs 0]) = true := nodes_iff.2 fun i hi => by
        by_cases e : i < xs.length
        · rw [nth_app1 e]; exact nodes_iff.1 HY.out.2.2.2 i e
        · have : i = xs.length := by simp at hi; omega
          subst this
          rw [nth_app2]; exact nodes_iff.1 HY.out.2.2.2 0 hpos
      have hll : (xs ++ [nth xs 0]).length = xs.length + 1 := by simp
      have hW := fun (b : Option Addr) cb w' (h : Ext w w') (hy : IntsAt w' b (xs ++ [nth xs 0])) => l03Walk_c a b ca cb x (xs ++ [nth xs 0]) w' (HY.out.2.1.mono h) HY.out.2.2.1 hy hnn (by omega)
      have e2 : (xs ++ [nth xs 0]).length - 1 = xs.length := by omega
      rw [e2, ← hgd, hll] at hW
      have HW := Lib.hid hW
      have HH := Lib.hid (And.intro hll (And.intro hq hnn))
      clear hW e2 hnn hll hgd ho
      go_wp2_with fail
      have hQ := HH.out.2.1
      have hLn := HH.out.1
      go_region_law ((first | (go_simp; go_at_call 88; refine (l01Own_c _ _ _ _ (by repeat (first | exact HY.out.1.qt hQ | refine IntsAt.mono ?_ ((Ext.refl _).alloc _) | refine IntsAt.mono ?_ ((Ext.refl _).drew))) HN.out (by omega)).mono ?_; rintro e w2 ⟨ar, cr, rfl, hO2, hE2⟩; first | have c0' := hE2.cell c0 | skip) | (go_simp; go_at_call 153; refine (HW.out _ _ _ (by first | exact grown_i ((hQ.drew).ext.trans hE2) hO2 (by first | exact Nat.le_of_eq hQ.drew.size.symm | omega) hg | exact (((hQ.drew).ext.alloc _).trans hE2).grown hg (fun k hk => by have := hO2.base k hk; have := hQ.drew.size; simp at *; omega)) hi4).mono ?_; rintro e w5 ⟨rfl, hq5⟩) | (refine step_app_i rfl _ _ rfl _ _ _ rfl (by first | exact hO2 | exact hO2.ext ((Ext.refl _).alloc _)) _ 1 _ rfl (by first | exact cell_one _ _ _ | exact hE2.cell (cell_one _ _ _)) (by omega) (by first | exact hE2.size | exact ((hE2.alloc _).size)) ?_; intro v' w' hO4 hg; obtain ⟨a4, c4, rfl, hi4⟩ := hO4.at)))
      all_goals go_wp2
      all_goals go_ret2
      all_goals exact ⟨rfl, Ext.qt (by first | exact grown_i ((hQ.drew).ext.trans hE2) hO2 (by first | exact Nat.le_of_eq hQ.drew.size.symm | omega) hg | exact (((hQ.drew).ext.alloc _).trans hE2).grown hg (fun k hk => by have := hO2.base k hk; have := hQ.drew.size; simp at *; omega)) hq5⟩
end Go.Proofs.Ytljchmkoafahgaa
