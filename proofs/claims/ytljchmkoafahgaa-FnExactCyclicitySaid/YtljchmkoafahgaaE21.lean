/- Contracts of starColumn and EigenColumns, the program's and the reference's. Conditions: the forms of the matrices. -/
import Derived.Test.YtljchmkoafahgaaGH
import Derived.Deep.AppendLies
namespace Go.Proofs.Ytljchmkoafahgaa
set_option linter.unusedVariables false
set_option linter.unusedSimpArgs false
open Go.RowKit

/-- what is behind an append of one row that is new -/
theorem OwnM.push {w w1 : World} (B : Nat) (v : Value) (m : List (List Int)) (hown : OwnM w1 B v m) (he : Ext w1 w) (ar : Option Addr) (cr : Nat) (ys : List Int) (hr : OwnI w w1.heap.size (.slice ar ys.length cr) ys) (hB : B ≤ w1.heap.size) :
    ∃ vals : List Value, w.ownsRow B 32 1 v m.length vals ∧ ∀ v' w', w'.ownsRow B 32 1 v' (m.length + 1) (vals ++ [.slice ar ys.length cr]) → w.grownBy w' v.ownBlock → OwnM w' B v' (m ++ [ys]) := by
  obtain ⟨A, C, h1, h2, h3, h4⟩ := (hown.ext he).hdr
  have hlt : ∀ i r o, i < m.length → A i = some ⟨r, o, none⟩ → r < w1.heap.size := by
    intro i r o hi ha
    obtain ⟨A', C', h1', h2', _⟩ := hown.hdr
    have e : ((List.range m.length).map fun i => Value.slice (A i) (row m i).length (C i)) = ((List.range m.length).map fun i => Value.slice (A' i) (row m i).length (C' i)) := by
      have hf := (hown.ext he)
      rcases h1.2 with ⟨_, h0⟩ | ⟨g, cap, cur, ev, _, hg, _, _, _, ht⟩
      · rw [h0] at hi; exact absurd hi (Nat.not_lt_zero _)
      · rcases h1'.2 with ⟨_, h0⟩ | ⟨g', cap', cur', ev', _, hg', _, _, _, ht'⟩
        · rw [h0] at hi; exact absurd hi (Nat.not_lt_zero _)
        · rw [ev] at ev'
          simp only [Value.slice.injEq, Option.some.injEq, Addr.mk.injEq, and_true, true_and] at ev'
          obtain ⟨rfl, rfl⟩ := ev'
          rw [Below.block he g (Array.getElem?_eq_some_iff.1 hg').1, hg'] at hg
          simp only [Option.some.injEq, Obj.cells.injEq, and_true] at hg
          rw [← ht, ← ht', hg]
    have e' := congrArg (fun l => l[i]?) e
    simp only [List.getElem?_map, List.getElem?_range hi, Option.map_some, Option.some.injEq, Value.slice.injEq, true_and] at e'
    have ho := h2' i hi
    rw [← e'.1, ha] at ho
    exact (ho.lt (k := r) rfl).2
  have hnr : ∀ r o, ar = some ⟨r, o, none⟩ → w1.heap.size ≤ r := fun r o e => by subst e; exact (hr.lt (k := r) rfl).1
  have hvlt : ∀ k, v.ownBlock = some k → k < w1.heap.size := by
    intro k hk
    obtain ⟨A', C', h1', _⟩ := hown.hdr
    exact (h1'.lt k hk).2
  refine ⟨_, h1, fun v' w' hw hg => ?_⟩
  have keep : ∀ (u : Value) (zs : List Int), OwnI w B u zs → (∀ k, u.ownBlock = some k → v.ownBlock ≠ some k) → OwnI w' B u zs := fun u zs hu hne =>
    hu.agree fun k hk => hg.block k (hu.lt hk).2 fun e => hne k hk e.symm
  have hrow : ∀ i, row (m ++ [ys]) i = if i = m.length then ys else row m i := fun i => by
    unfold row
    by_cases e : i = m.length
    · subst e; simp
    · rw [if_neg e]
      by_cases hlt : i < m.length
      · simp [List.getD_eq_getElem?_getD, List.getElem?_append_left hlt]
      · have : m.length < i := by omega
        simp [List.getD_eq_getElem?_getD, List.getElem?_append, hlt, show i - m.length ≠ 0 by omega]
  refine OwnM.of_hdr (A := fun i => if i = m.length then ar else A i) (C := fun i => if i = m.length then cr else C i) ?_ ?_ ?_
  · have e : ((List.range (m ++ [ys]).length).map fun i => Value.slice (if i = m.length then ar else A i) (row (m ++ [ys]) i).length (if i = m.length then cr else C i)) =
        ((List.range m.length).map fun i => .slice (A i) (row m i).length (C i)) ++ [.slice ar ys.length cr] := by
      rw [List.length_append, List.length_singleton, List.range_succ, List.map_append]
      have eA := List.map_congr_left (l := List.range m.length) (f := fun i => Value.slice (if i = m.length then ar else A i) (row (m ++ [ys]) i).length (if i = m.length then cr else C i)) (g := fun i => Value.slice (A i) (row m i).length (C i)) (fun i hi => by
        have : i ≠ m.length := by have := List.mem_range.1 hi; omega
        simp only [hrow, if_neg this])
      rw [eA]
      simp [hrow]
    rw [e, List.length_append]
    exact hw
  · intro i hi
    rw [hrow]
    by_cases e : i = m.length
    · subst e
      simp only [if_pos]
      refine keep _ _ (hr.mono hB) fun k hk e => ?_
      have := hvlt k e
      have := (hr.lt hk).1
      omega
    · simp only [if_neg e]
      have hi' : i < m.length := by simp at hi; omega
      refine keep _ _ (h2 i hi') fun k hk e => ?_
      rcases (h2 i hi').form with ⟨h5, _⟩ | ⟨r, cap, h5, _⟩
      · rw [h5] at hk; simp [Value.ownBlock] at hk
      · rw [h5] at hk
        simp only [Value.ownBlock, Option.some.injEq] at hk
        simp only [Value.slice.injEq] at h5
        rw [← hk] at e
        exact h4 i r 0 hi' h5.1 e
  · intro i j r o o' hi hj hne
    have hi' : i < m.length + 1 := by simpa using hi
    have hj' : j < m.length + 1 := by simpa using hj
    by_cases e : i = m.length
    · have e' : j ≠ m.length := by omega
      simp only [if_pos e, if_neg e']
      intro ea eb
      have := hnr r o ea
      have := hlt j r o' (by omega) eb
      omega
    · by_cases e' : j = m.length
      · simp only [if_neg e, if_pos e']
        intro ea eb
        have := hnr r o' eb
        have := hlt i r o (by omega) ea
        omega
      · simp only [if_neg e, if_neg e']
        exact h3 i j r o o' (by omega) (by omega) hne

/-- append of one row that is new, as a step of a region that draws -/
theorem step_app_m {ops : Array Oper} {o : Oper} {a : Act} {K : Act → World → Prop} {Q : Exit → Act → World → Prop} {E : Prop} {w w1 : World} (hgd : o.guard = none) (s x : Operand)
    (ho : o.op = .call { callee := .builtin .append, args := #[s, x], argTypes := #[22, 22] })
    (B : Nat) (v : Value) (m : List (List Int)) (hs : a.eval s = v) (hown : OwnM w1 B v m) (he : Ext w1 w) (ad : Addr) (c : Nat) (ar : Option Addr) (cr : Nat) (ys : List Int) (hx : a.eval x = .slice (some ad) 1 c)
    (hc : w.cell? ad = some (.slice ar ys.length cr)) (hr : OwnI w w1.heap.size (.slice ar ys.length cr) ys) (hl : m.length ≤ 1000000000) (hB : B ≤ w1.heap.size)
    (h : ∀ v' w', OwnM w' B v' (m ++ [ys]) → w.grownBy w' v.ownBlock → K (a.put o.dst v') w') :
    if Region.wanted o (yielded ops a.tmps) = true then Oper.wp Try.prog o a w K Q else E := by
  obtain ⟨vals, hv, hpush⟩ := OwnM.push B v m hown he ar cr ys hr hB
  obtain ⟨i0, hi, hz0, hz1, hz2⟩ := info_parts info_l
  refine step_append_lies w hgd s x 22 ho B 32 i0 (.slice none 0 0) 1 24 Try.underlying22 hi hz0 hz1 hz2 rfl (by decide) v m.length vals hs hv ad 1 c [.slice ar ys.length cr] hx rfl ?_ ?_ (by decide) ?_ ?_ (Nat.le_trans hB he.size) _ rfl ?_
  · intro j u hj
    match j, hj with
    | 0, hj =>
      simp only [List.getElem?_cons_zero, Option.some.injEq] at hj
      subst hj
      have : ad.add 0 = ad := by simp [Addr.add]
      rw [this]; exact hc
  · intro u hu; simp only [List.mem_singleton] at hu; subst hu; rfl
  · have : maxLen = 9223372036854775807 := rfl
    omega
  · omega
  · intro g cap w' h1 h2 _ _
    exact h _ w' (hpush _ w' h1 h2) h2

theorem keepR3g {W w' : World} {p q r : Addr} {x y z : Value} (c0 : W.cell? p = some x) (c1 : W.cell? q = some y) (c2 : W.cell? r = some z) (h : Ext W w') : Ext W w' ∧ w'.cell? p = some x ∧ w'.cell? q = some y ∧ w'.cell? r = some z := ⟨h, h.cell c0, h.cell c1, h.cell c2⟩
def colOf (x : List (List Int)) (R : Int × Int) (c : List Int) : List Int := mkRow x.length fun j => ent (starM (shiftM x R.1 R.2) x.length) j (nth c 0).toNat
def colsR (f : List Int → List Int) (m : List (List Int)) : Nat → List (List Int)
  | 0 => []
  | k + 1 => colsR f m k ++ [f (row m k)]
theorem colsR_len (f : List Int → List Int) (m : List (List Int)) (k : Nat) : (colsR f m k).length = k := by
  induction k with
  | zero => rfl
  | succ k ih => simp [colsR, ih]
theorem colsR_mem {f : List Int → List Int} {m : List (List Int)} {k : Nat} {l : List Int} : l ∈ colsR f m k ↔ ∃ t, t < k ∧ l = f (row m t) := by
  induction k with
  | zero => simp [colsR]
  | succ k ih =>
    simp only [colsR, List.mem_append, ih, List.mem_singleton]
    constructor
    · rintro (⟨t, h1, h2⟩ | h1)
      · exact ⟨t, by omega, h2⟩
      · exact ⟨k, by omega, h1⟩
    · rintro ⟨t, h1, h2⟩
      by_cases e : t = k
      · subst e; exact .inr h2
      · exact .inl ⟨t, by omega, h2⟩
theorem colsR_all {f : List Int → List Int} {m : List (List Int)} {k : Nat} (h : ∀ t, t < k → allV (f (row m t)) = true) : allM (colsR f m k) = true := by
  unfold allM
  rw [List.all_eq_true]
  intro l hl
  obtain ⟨t, h1, rfl⟩ := colsR_mem.1 hl
  exact h t h1
theorem colsR_no {f : List Int → List Int} {m : List (List Int)} {k t : Nat} (ht : t < k) (h : allV (f (row m t)) = false) : allM (colsR f m k) = false := by
  cases e : allM (colsR f m k)
  · rfl
  · unfold allM at e
    rw [List.all_eq_true] at e
    have := e _ (colsR_mem.2 ⟨t, ht, rfl⟩)
    rw [h] at this; cases this
theorem colsR_tot {f : List Int → List Int} {m : List (List Int)} {n : Nat} (hf : ∀ c, (f c).length = n) (k : Nat) : tot (colsR f m k) = k * n := by
  induction k with
  | zero => simp [colsR, tot]
  | succ k ih =>
    have e : tot (colsR f m k ++ [f (row m k)]) = tot (colsR f m k) + (f (row m k)).length := by rw [tot_append]; simp [tot]
    simp only [colsR]
    rw [e, ih, hf, Nat.succ_mul]
theorem colOf_len (x : List (List Int)) (R : Int × Int) (c : List Int) : (colOf x R c).length = x.length := mkRow_len _ _
theorem critCs_len (x : List (List Int)) (R : Int × Int) : (critCs x R).length ≤ x.length := by
  have h1 := compsM_len (wB (critM x R) x.length) x.length x.length
  have h2 := List.length_filter_le (fun c => !delB (critM x R) c) (compsM (wB (critM x R) x.length) x.length x.length)
  unfold critCs; omega
/-- a component's first node -/
theorem critCs_at {x : List (List Int)} {R : Int × Int} {k : Nat} (hk : k < (critCs x R).length) : 0 < (row (critCs x R) k).length ∧ ∃ i, i < x.length ∧ nth (row (critCs x R) k) 0 = (i : Int) := by
  have hm : row (critCs x R) k ∈ critCs x R := by rw [row_of_lt hk]; exact List.getElem_mem hk
  unfold critCs at hm
  rw [List.mem_filter] at hm
  obtain ⟨i, h1, h2, h3⟩ := compsM_mem.1 hm.1
  refine ⟨?_, i, h1, h3⟩
  have := ownC_pos (wB_refl (critM x R) x.length i) h1
  unfold critCs
  rw [h2]; exact this
def eigCV (x : List (List Int)) : List (List Int) × Int := if isSq x then (match bestO x x.length with | none => ([], 4) | some R => chkM (colsR (colOf x R) (critCs x R) (critCs x R).length)) else ([], 1)
theorem eigCV_tot (x : List (List Int)) : tot (eigCV x).1 ≤ 1000000 := by
  unfold eigCV
  split
  · rename_i h
    have hl := isSq_rect h
    split
    · simp [tot]
    · rename_i R _
      refine chkM_tot ?_
      rw [colsR_tot (colOf_len x R)]
      have := critCs_len x R
      have : (critCs x R).length * x.length ≤ 10 * 10 := Nat.mul_le_mul (by omega) (by omega)
      omega
  · simp [tot]
set_option maxHeartbeats 1000000 in
theorem starColumn_c (a : Option Addr) (ca : Nat) (x : List (List Int)) (R : Int × Int) (v : Nat) (w : World) (hx : MatAt w a x) (hs : isSq x = true) (hb : bestO x x.length = some R) (hv : v < x.length) :
    Calls Try.prog 89 #[.slice a x.length ca, .agg #[.int .i64 (R).1, .int .i64 (R).2], .int .i64 (v : Int)] w (GivesI w (mkRow x.length fun j => ent (starM (shiftM x R.1 R.2) x.length) j v)) := by
  obtain ⟨rx, hl1, hl2⟩ := isSq_rect hs
  obtain ⟨⟨b1, b2⟩, hN, _⟩ := best_facts hs hb
  have b2' : -1000000 ≤ R.2 ∧ R.2 ≤ 1000000 := by omega
  have hA := shift_abdW hs b1 b2'
  have hB := best_star hs hb
  have hYO := YOk.of_shift hs b1 b2'
  have hyl : (shiftM x R.1 R.2).length = x.length := mkMat_len _ _ _
  have hstar := fun (a : Option Addr) (ca : Nat) w' (h : MatAt w' a (shiftM x R.1 R.2)) => starOf_c a ca (shiftM x R.1 R.2) x.length 2000000000000 w' h hYO.rect hl1 hl2 hA
  rw [hyl] at hstar
  have hsr := starM_rect (shiftM x R.1 R.2) x.length
  have hsl := hsr.1
  have hT := fun (a : Option Addr) (ca : Nat) w' (h : MatAt w' a (starM (shiftM x R.1 R.2) x.length)) => transposed_c a ca x.length (starM (shiftM x R.1 R.2) x.length) w' h (by rw [hsl]; exact hsr) (by rw [hsl]; omega) (by rw [hsl]; omega) (by omega)
  rw [hsl] at hT
  obtain ⟨W, hW, HBx, hs2, hE⟩ := alloc2_facts w (.int .i64 R.1) (.int .i64 R.2) 25
  obtain ⟨c0, c1, -, -⟩ := HBx
  have HSh := Lib.hid (fun w' (h : Ext w w') => shifted_cW a ca x R.1 R.2 w' (hx.mono h) hs b1 b2')
  have HS := Lib.hid (And.intro hstar (And.intro hB hyl))
  have HT := Lib.hid hT
  have hxl := hx.len
  clear hx rx hs hb b1 b2 b2' hN hA hB hYO hyl hstar hsr hsl hT
  go_enter Try.func89, Try.ntmps89
  go_wp2_with fail
  refine (HSh.out _ hE).mono ?_
  rintro e w2 ⟨a2, c2, rfl, hO2, E2⟩
  rw [HS.out.2.2]
  have hM2 := Lib.hid hO2.mat
  clear hO2
  go_wp2_with fail
  refine (HS.out.1 _ _ _ hM2.out).mono ?_
  rintro e w3 ⟨E3, h3, -⟩
  obtain ⟨a3, c3, rfl, hO3⟩ := h3 HS.out.2.1
  have hM3 := Lib.hid hO3.mat
  clear hO3 h3
  go_wp2_with fail
  refine (HT.out _ _ _ hM3.out).mono ?_
  rintro e w4 ⟨a4, c4, rfl, hO4, E4⟩
  rw [mkMat_len]
  obtain ⟨g, A, C, rfl, hM4⟩ := hO4.open (by rw [mkMat_len]; omega)
  have hk : v < (mkMat x.length x.length fun i j => ent (starM (shiftM x R.1 R.2) x.length) j i).length := by rw [mkMat_len]; exact hv
  have d1 := hM4.cell hk
  have hown := hM4.own v hk
  have hrow : row (mkMat x.length x.length fun i j => ent (starM (shiftM x R.1 R.2) x.length) j i) v = mkRow x.length fun j => ent (starM (shiftM x R.1 R.2) x.length) j v := mkMat_row hv
  rw [hrow, mkRow_len] at d1
  rw [hrow] at hown
  have hEE := ((hE.trans E2).trans E3).trans E4
  have HO := Lib.hid (hown.mono ((hE.trans E2).trans E3).size)
  clear hO4 hM4 hk hown hrow
  generalize A v = av at *
  generalize C v = cv at *
  go_wp2
  go_ret
  exact ⟨av, cv, by rw [mkRow_len]; rfl, HO.out, hEE⟩

set_option maxRecDepth 100000 in
set_option maxHeartbeats 2000000 in
theorem implEigC_c (a : Option Addr) (ca : Nat) (x : List (List Int)) (w : World) (hx : MatAt w a x) : Calls Try.prog 36 #[.slice a x.length ca] w (GivesM2 w (eigCV x).1 (eigCV x).2) := by
  have hC := criticalOf_c a ca x w hx
  cases hs : isSq x
  · have e : eigCV x = ([], 1) := by simp [eigCV, hs]
    rw [e]; clear e
    have e : critV x = ([], 1) := by simp [critV, hs]
    rw [e] at hC
    have HC := Lib.hid hC
    clear hC e hx
    go_enter Try.func36, Try.ntmps36
    go_wp2_with fail
    refine HC.out.mono ?_
    rintro e w1 ⟨a1, c1, rfl, hO, E1⟩
    go_wp2
    go_ret2
    exact ⟨none, 0, rfl, .inl ⟨rfl, rfl⟩, E1⟩
  cases hb : bestO x x.length with
  | none =>
    have e : eigCV x = ([], 4) := by simp [eigCV, hs, hb]
    rw [e]; clear e
    have e : critV x = ([], 4) := by simp [critV, hs, hb]
    rw [e] at hC
    have HC := Lib.hid hC
    clear hC e hx hb
    go_enter Try.func36, Try.ntmps36
    go_wp2_with fail
    refine HC.out.mono ?_
    rintro e w1 ⟨a1, c1, rfl, hO, E1⟩
    go_wp2
    go_ret2
    exact ⟨none, 0, rfl, .inl ⟨rfl, rfl⟩, E1⟩
  | some R =>
    have e : eigCV x = chkM (colsR (colOf x R) (critCs x R) (critCs x R).length) := by simp [eigCV, hs, hb]
    rw [e]; clear e
    have e : critV x = (critM x R, 0) := by simp [critV, hs, hb]
    rw [e] at hC
    have hsq := crit_sq hs (R := R)
    have hl := isSq_rect hs
    have hCC := fun (a : Option Addr) (ca : Nat) w' (h : MatAt w' a (critM x R)) => critComps_c a ca (critM x R) w' h hsq
    have hcs : ((compsM (wB (critM x R) (critM x R).length) (critM x R).length (critM x R).length).filter fun c => !delB (critM x R) c) = critCs x R := by rw [critM_len]; rfl
    rw [hcs] at hCC
    have hSt := fun (v : Nat) w' (h : Ext w w') (hv : v < x.length) => starColumn_c a ca x R v w' (hx.mono h) hs hb hv
    have hcol : ∀ (c : List Int) (v : Nat), nth c 0 = (v : Int) → (mkRow x.length fun j => ent (starM (shiftM x R.1 R.2) x.length) j v) = colOf x R c := fun c v h => by unfold colOf; rw [h]; rfl
    have hcl := colOf_len x R
    have hat := fun k hk => critCs_at (x := x) (R := R) (k := k) hk
    have hclen := critCs_len x R
    have HC := Lib.hid hC
    have HCC := Lib.hid hCC
    have HMn := Lib.hid (fun w' (h : Ext w w') => cycleMean_some a ca x w' (hx.mono h) hs hb)
    have HSt := Lib.hid hSt
    have HL := Lib.hid (And.intro hcol (And.intro hcl (And.intro hat hclen)))
    have hxl := hx.len
    have hl2 := hl.2.2
    clear hC e hx hb hs hsq hCC hcs hSt hcol hcl hat hclen hl
    generalize colOf x R = f at *
    generalize critCs x R = m at *
    go_enter Try.func36, Try.ntmps36
    go_wp2_with fail
    refine HC.out.mono ?_
    rintro e w1 ⟨a1, c1, rfl, hO, E1⟩
    have hM := Lib.hid hO.mat
    clear hO
    go_wp2_with fail
    refine (HMn.out _ E1).mono ?_
    rintro e w2 ⟨rfl, E2⟩
    obtain ⟨W3, hW3, HB, HB2, hs4, hE4, hE5⟩ := box_putE w2 (.int .i64 R.1) (.int .i64 R.2) 25
    obtain ⟨q0, q1, p0, p1⟩ := HB
    obtain ⟨c0, c1', -, -⟩ := HB2
    have hE12 := E1.trans E2
    have hEE := hE12.trans hE5
    go_wp2_with fail
    refine (HCC.out _ _ _ ((hM.out.mono E2).mono hE5)).mono ?_
    rintro e w4 ⟨a4, c4, rfl, hO4, E4⟩
    have hE14 := hEE.trans E4
    replace c0 := E4.cell c0
    replace c1' := E4.cell c1'
    have hM4 := hO4.mat
    have hml := hM4.len
    have HM4 := Lib.hid hM4
    have hO0 := OwnM.nil w4 w4.heap.size
    clear hM4 hO4 q0 q1 p0 p1 hW3
    go_wp2
    go_loopw [8, 27] (fun s i wr => ∃ (k : Nat), k ≤ m.length ∧ i = .int .i64 k ∧ Ext w4 wr ∧ OwnM wr w4.heap.size s (colsR f m k)) (fun _ i _ => m.length - (intOf i).toNat)
    case atStart => exact ⟨0, Nat.zero_le _, rfl, Ext.refl _, hO0⟩
    case round =>
      obtain ⟨k, hk, rfl, hE, hO⟩ := hrel
      clear hO0
      by_cases hlt : k < m.length
      · obtain ⟨hpk, i0, hi0, hni⟩ := HL.out.2.2.1 k hlt
        obtain ⟨p, o, rfl, hcc⟩ := HM4.out.at hlt
        obtain ⟨ai, ci, d1, hx1, -⟩ := hcc k hlt
        obtain ⟨q, r, rfl, hd⟩ := hx1.at hpk
        have d2 := hd 0 hpk
        replace d1 := hE.cell d1
        rw [Nat.add_zero, hni] at d2
        have hS2 := fun w' (h : Ext w4 w') => HSt.out i0 w' (hE14.trans h) hi0
        rw [HL.out.1 (row m k) i0 hni] at hS2
        have hst : colsR f m (k + 1) = colsR f m k ++ [f (row m k)] := rfl
        have hcl := HL.out.2.1 (row m k)
        have hln : (colsR f m k).length ≤ 1000000000 := by rw [colsR_len]; have := HL.out.2.2.2; omega
        have HS2 := Lib.hid hS2
        have Hst := Lib.hid hst
        have hB := hE.size
        clear hcc hd hx1 hS2 hst hni
        generalize f (row m k) = col at *
        go_upto_region 9 with fail
        have hD := hE.drew
        have hOd := hO.ext ((Ext.refl wr).drew)
        go_region_held3 (fun w' => Ext w4 w' ∧ w'.cell? ⟨q, r, none⟩ = some (.int .i64 (i0 : Int)) ∧ w'.cell? ⟨w2.heap.size, 0, none⟩ = some (.int .i64 R.1) ∧ w'.cell? ⟨w2.heap.size, 1, none⟩ = some (.int .i64 R.2))
          ((refine keepR3g d2 c0 c1' ?_; (first | exact hD | exact Ext.trans (And.left ‹Ext w4 _ ∧ _›) hE6 | exact Ext.alloc (And.left ‹Ext w4 _ ∧ _›) _ | exact Ext.grown (And.left ‹Ext w4 _ ∧ _›) hgx (fun b hb => hO.base b hb))))
          (first
            | (go_at_call 89; refine (HS2.out _ (And.left ‹Ext w4 _ ∧ _›)).mono ?_; rintro e w6 ⟨a6, c6, rfl, hO6, hE6⟩)
            | (refine step_app_m rfl _ _ rfl w4.heap.size _ _ rfl hOd (hE6.alloc _) _ 1 a6 c6 col rfl (by rw [hcl]; exact cell_one _ _ _) (hO6.ext ((Ext.refl w6).alloc _)) hln hD.size ?_; intro v' w' hO7 hgx))
        all_goals
          have hEe : Ext w4 w' := And.left ‹Ext w4 _ ∧ _›
          clear d2
          go_wp2
          go_roundw
          case rel => exact ⟨k + 1, by omega, by go_num, hEe, by rw [Hst.out]; exact hO7⟩
          case measure => simp [intOf]; omega
      · obtain rfl : m.length = k := by omega
        obtain ⟨az, cz, rfl, hm⟩ := hO.at
        rw [colsR_len]
        have hck := checkedMatrix_c az cz (colsR f m m.length) wr hm
        have hEf := hE14.trans hE
        have HOf := Lib.hid (hO.mono hE14.size)
        rw [colsR_len] at hck
        clear hO hm
        cases ha : allM (colsR f m m.length)
        · have e : chkM (colsR f m m.length) = ([], 3) := by unfold chkM; rw [ha]; rfl
          rw [ha] at hck
          have Hck := Lib.hid hck
          have HE := Lib.hid e
          clear hck e ha
          go_wp2_with fail
          refine Hck.out.mono ?_
          rintro e w' ⟨rfl, rfl⟩
          go_wp2
          go_ret2
          rw [HE.out]
          exact ⟨none, 0, rfl, .inl ⟨rfl, rfl⟩, hEf⟩
        · have e : chkM (colsR f m m.length) = (colsR f m m.length, 0) := by unfold chkM; rw [ha]; rfl
          rw [ha] at hck
          have Hck := Lib.hid hck
          have HE := Lib.hid e
          clear hck e ha
          go_wp2_with fail
          refine Hck.out.mono ?_
          rintro e w' ⟨rfl, rfl⟩
          go_wp2
          go_ret2
          rw [HE.out]
          exact ⟨az, cz, by rw [colsR_len]; rfl, HOf.out, hEf⟩

set_option maxRecDepth 100000 in
set_option maxHeartbeats 2000000 in
theorem specEigC_c (a : Option Addr) (ca : Nat) (x : List (List Int)) (w : World) (hx : MatAt w a x) : Calls Try.prog 35 #[.slice a x.length ca] w (GivesM2 w (eigCV x).1 (eigCV x).2) := by
  have HC0 := Lib.hid (fun w' (h : Ext w w') => l06Code_c a ca x w' (hx.mono h))
  cases hs : isSq x
  · have e : eigCV x = ([], 1) := by simp [eigCV, hs]
    rw [e]; clear e
    have e : codeV x = 1 := by simp [codeV, hs]
    rw [e] at HC0
    clear e hs hx
    go_enter Try.func35, Try.ntmps35
    go_wp2_with fail
    refine (HC0.out _ (Ext.refl _)).mono ?_
    rintro e w1 ⟨rfl, E1⟩
    go_wp2
    go_ret2
    exact ⟨none, 0, rfl, .inl ⟨rfl, rfl⟩, E1⟩
  cases hb : bestO x x.length with
  | none =>
    have e : eigCV x = ([], 4) := by simp [eigCV, hs, hb]
    rw [e]; clear e
    have e : codeV x = 4 := by simp [codeV, hs, hb]
    rw [e] at HC0
    clear e hs hb hx
    go_enter Try.func35, Try.ntmps35
    go_wp2_with fail
    refine (HC0.out _ (Ext.refl _)).mono ?_
    rintro e w1 ⟨rfl, E1⟩
    go_wp2
    go_ret2
    exact ⟨none, 0, rfl, .inl ⟨rfl, rfl⟩, E1⟩
  | some R =>
    have e : eigCV x = chkM (colsR (colOf x R) (critCs x R) (critCs x R).length) := by simp [eigCV, hs, hb]
    rw [e]; clear e
    have e : codeV x = 0 := by simp [codeV, hs, hb]
    rw [e] at HC0
    clear e
    obtain ⟨rx, hl1, hl2⟩ := isSq_rect hs
    obtain ⟨⟨b1, b2⟩, hN, _⟩ := best_facts hs hb
    have b2' : -1000000 ≤ R.2 ∧ R.2 ≤ 1000000 := by omega
    have hA := shift_abdW hs b1 b2'
    have hB := best_star hs hb
    have hYO := YOk.of_shift hs b1 b2'
    have hyl : (shiftM x R.1 R.2).length = x.length := mkMat_len _ _ _
    have hstar := fun (a : Option Addr) (ca : Nat) w' (h : MatAt w' a (shiftM x R.1 R.2)) => l03Star_c a ca (shiftM x R.1 R.2) x.length 2000000000000 w' h hYO.rect hl1 hl2 hA
    rw [hyl] at hstar
    have hsr := starM_rect (shiftM x R.1 R.2) x.length
    have hsl := hsr.1
    have hT := fun (a : Option Addr) (ca : Nat) w' (h : MatAt w' a (starM (shiftM x R.1 R.2) x.length)) => l02Turn_c a ca x.length x.length (starM (shiftM x R.1 R.2) x.length) w' h hsr (by omega) (by omega) (by omega) (by omega)
    rw [hsl] at hT
    have hBt := fun w' (h : Ext w w') => l04Best_some a ca x w' (hx.mono h) hs hb
    have hMn := fun (B : Nat) (b : Option Addr) (cb : Nat) xs w' (h : Ext w w') hy hl hr => l04Mean_of (B := B) a b ca cb x xs w' (hx.mono h) hy hl hs (R := R) hr
    have hSh := fun w' (h : Ext w w') => l04Shift_cW a ca x R.1 R.2 w' (hx.mono h) hs b1 b2'
    have hCm := fun w' (h : Ext w w') => l06Comps_c a ca x R w' (hx.mono h) hs hb
    have hcol : ∀ (c : List Int) (v : Nat), nth c 0 = (v : Int) → v < x.length → row (mkMat x.length x.length fun i j => ent (starM (shiftM x R.1 R.2) x.length) j i) v = colOf x R c := fun c v h hv => by
      unfold colOf; rw [h, mkMat_row hv]; rfl
    have hcl := colOf_len x R
    have hat := fun k hk => critCs_at (x := x) (R := R) (k := k) hk
    have hclen := critCs_len x R
    have hvec : ∀ c, isVec (colOf x R c) = allV (colOf x R c) := fun c => by
      unfold isVec
      rw [show inR ((colOf x R c).length : Int) 1 10 = true from inR_iff.2 (by rw [hcl]; omega)]; simp
    have hrt : Rect (mkMat x.length x.length fun i j => ent (starM (shiftM x R.1 R.2) x.length) j i) x.length x.length := rect_mk _ _ _
    have HBt := Lib.hid hBt
    have HMn := Lib.hid hMn
    have HSh := Lib.hid hSh
    have HS := Lib.hid (And.intro hstar (And.intro hB hyl))
    have HT := Lib.hid hT
    have HCm := Lib.hid hCm
    have HL := Lib.hid (And.intro hcol (And.intro hcl (And.intro hat (And.intro hvec (And.intro hrt hclen)))))
    have hxl := hx.len
    clear hx rx hs hb b1 b2 b2' hN hA hB hYO hyl hstar hsr hsl hT hBt hMn hSh hCm hcol hcl hat hclen hvec hrt
    generalize colOf x R = f at *
    generalize critCs x R = m at *
    generalize hTd : (mkMat x.length x.length fun i j => ent (starM (shiftM x R.1 R.2) x.length) j i) = T at *
    have HTd := Lib.hid hTd
    clear hTd
    go_enter Try.func35, Try.ntmps35
    go_wp2_with fail
    refine (HC0.out _ (Ext.refl _)).mono ?_
    rintro e w1 ⟨rfl, E1⟩
    go_wp2_with fail
    refine (HBt.out _ E1).mono ?_
    rintro e w2 ⟨b2, c2, out, rfl, hO, hol, hcy, E2⟩
    have EE := E1.trans E2
    go_wp2_with fail
    refine (HMn.out _ b2 c2 out _ EE hO hol hcy).mono ?_
    rintro e w3 ⟨rfl, E3⟩
    obtain ⟨W3, hW3, HC, HC2, hs4, hE4, hE5⟩ := box_putE w3 (.int .i64 R.1) (.int .i64 R.2) 25
    obtain ⟨q0, q1, p0, p1⟩ := HC
    obtain ⟨c0, c1, -, -⟩ := HC2
    replace EE := (EE.trans E3).trans hE5
    clear hO hcy
    go_wp2_with fail
    refine (HSh.out _ EE).mono ?_
    rintro e w4 ⟨a4, c4, rfl, hO4, E4⟩
    rw [HS.out.2.2]
    have hM4 := Lib.hid hO4.mat
    clear hO4
    go_wp2_with fail
    refine (HS.out.1 _ _ _ hM4.out).mono ?_
    rintro e w5 ⟨E5, h5, -⟩
    obtain ⟨a5, c5, rfl, hO5⟩ := h5 HS.out.2.1
    have hM5 := Lib.hid hO5.mat
    clear hO5 h5
    have EE5 := (EE.trans E4).trans E5
    go_wp2_with fail
    refine (HT.out _ _ _ hM5.out).mono ?_
    rintro e w6 ⟨a6, c6, rfl, hO6, E6⟩
    rw [HL.out.2.2.2.2.1.1]
    have HM6 := Lib.hid hO6.mat
    have EE6 := EE5.trans E6
    clear hO6
    go_wp2_with fail
    refine (HCm.out _ EE6).mono ?_
    rintro e w7 ⟨a7, c7, rfl, hO7, E7⟩
    have hm7 := hO7.mat
    have hml := hm7.len
    have HM7 := Lib.hid hm7
    have hO0 := OwnM.empty w7 w7.heap.size (Nat.le_refl _)
    have hE0 := (Ext.refl w7).alloc (.cells #[] 32)
    have EE7 := EE6.trans E7
    clear hm7 hO7 q0 q1 p0 p1 hW3 c0 c1
    go_wp2
    go_loopw [13, 14] (fun s i wr => ∃ (k : Nat), k ≤ m.length ∧ i = .int .i64 k ∧ Ext w7 wr ∧ OwnM wr w7.heap.size s (colsR f m k) ∧ Hid (∀ t, t < k → allV (f (row m t)) = true)) (fun _ i _ => m.length - (intOf i).toNat)
    case atStart => exact ⟨0, Nat.zero_le _, rfl, hE0, hO0, fun t h => absurd h (Nat.not_lt_zero _)⟩
    case round =>
      obtain ⟨k, hk, rfl, hE, hO, hall⟩ := hrel
      clear hO0 hE0
      by_cases hlt : k < m.length
      · obtain ⟨hpk, i0, hi0, hni⟩ := HL.out.2.2.1 k hlt
        obtain ⟨p, o, rfl, hcc⟩ := HM7.out.at hlt
        obtain ⟨ai, ci, d1, hx1, -⟩ := hcc k hlt
        obtain ⟨q, r, rfl, hd⟩ := hx1.at hpk
        have d2 := hE.cell (hd 0 hpk)
        replace d1 := hE.cell d1
        rw [Nat.add_zero, hni] at d2
        have hT6 := HM6.out
        have htl := HL.out.2.2.2.2.1.1
        obtain ⟨p2, o2, rfl⟩ := hT6.base (by omega)
        obtain ⟨q2, r2, cc2, e1, -, hrow⟩ := hT6.hdr HL.out.2.2.2.2.1 hi0 (by omega)
        have hE67 := E7.trans hE
        replace e1 := hE67.cell e1
        rw [HL.out.1 (row m k) i0 hni hi0] at hrow
        replace hrow := hrow.mono hE67
        have hcl := HL.out.2.1 (row m k)
        have hvc := HL.out.2.2.2.1 (row m k)
        have hst : colsR f m (k + 1) = colsR f m k ++ [f (row m k)] := rfl
        have hVec := l02Vector_c (some ⟨q2, r2, none⟩) cc2 (f (row m k)) wr hrow
        have hOwn := fun w' (h : Ext wr w') => l01Own_c (some ⟨q2, r2, none⟩) cc2 (f (row m k)) w' (hrow.mono h) (fun h => by cases h) (by rw [hcl]; omega)
        rw [hvc, hcl] at hVec
        rw [hcl] at hOwn
        clear hcc hd hx1 hni hT6 htl hrow hvc
        cases ha : allV (f (row m k))
        · rw [ha] at hVec
          have e : chkM (colsR f m m.length) = ([], 3) := by unfold chkM; rw [colsR_no hlt ha]; rfl
          have HE := Lib.hid e
          have HVec := Lib.hid hVec
          clear e hVec hOwn ha hst
          go_wp2_with fail
          refine HVec.out.mono ?_
          rintro e w' ⟨rfl, rfl⟩
          go_wp2
          go_ret2
          rw [HE.out]
          exact ⟨none, 0, rfl, .inl ⟨rfl, rfl⟩, EE7.trans hE⟩
        · rw [ha] at hVec
          have hall2 : Hid (∀ t, t < k + 1 → allV (f (row m t)) = true) := fun t ht => by
            by_cases e : t = k
            · subst e; exact ha
            · exact hall.out t (by omega)
          have HVec := Lib.hid hVec
          have HOwn := Lib.hid hOwn
          have Hst := Lib.hid hst
          have hln : (colsR f m k).length ≤ 1000000000 := by rw [colsR_len]; have := HL.out.2.2.2.2.2; omega
          clear hVec hOwn ha hst hall
          generalize f (row m k) = col at *
          go_wp2_with fail
          refine HVec.out.mono ?_
          rintro e w' ⟨rfl, rfl⟩
          go_wp2_with fail
          refine (HOwn.out _ (Ext.refl _)).mono ?_
          rintro e w8 ⟨a8, c8, rfl, hO8, E8⟩
          rw [hcl]
          have hE3 := E8.alloc (.cells #[.slice a8 x.length c8] 32)
          rw [hcl] at hO8
          have hB := hE.size
          go_wp2_with (at_builtin; refine app_m rfl _ _ rfl w7.heap.size _ _ rfl hO hE3 ⟨w8.heap.size, 0, none⟩ 1 a8 c8 col rfl (by rw [hcl]; exact cell_one _ _ _) (by rw [hcl]; exact hO8.ext ((Ext.refl w8).alloc _)) hln hB ?_)
          intro v' w' hO9 hg
          have hEg := Ext.grown (hE.trans hE3) hg (fun b hb => hO.base b hb)
          go_wp2
          go_roundw
          case rel => exact ⟨k + 1, by omega, by go_num, hEg, by rw [Hst.out]; exact hO9, hall2⟩
          case measure => simp [intOf]; omega
      · obtain rfl : m.length = k := by omega
        obtain ⟨az, cz, rfl, hm⟩ := hO.at
        have e : chkM (colsR f m m.length) = (colsR f m m.length, 0) := by unfold chkM; rw [colsR_all hall.out]; rfl
        have HE := Lib.hid e
        have HOf := Lib.hid (hO.mono EE7.size)
        clear e hO hm hall
        go_wp2
        go_ret2
        rw [HE.out]
        exact ⟨az, cz, rfl, HOf.out, EE7.trans hE⟩

end Go.Proofs.Ytljchmkoafahgaa
