/- Appending to slices that the call itself has made. No condition but the sizes. -/
import Derived.Laws.AppendOwnNone
import Derived.Test.YtljchmkoafahgaaB2
namespace Go.Proofs.Ytljchmkoafahgaa
set_option linter.unusedVariables false
open Go.RowKit

theorem World.grownBy.refl' (w : World) (row : Option Nat) : w.grownBy w row := ⟨rfl, rfl, rfl, Nat.le_refl _, fun _ _ _ => rfl⟩
theorem cell_one (w : World) (x : Value) (t : TypeId) : (w.alloc (.cells #[x] t)).cell? ⟨w.heap.size, 0, none⟩ = some x := by simp

/-- append of one integer -/
theorem app_i {ops : Array Oper} {rest : List Oper} {o : Oper} {a : Act} {Q : Exit → Act → World → Prop} {w : World} (hgd : o.guard = none) (s x : Operand)
    (ho : o.op = .call { callee := .builtin .append, args := #[s, x], argTypes := #[32, 32] })
    (B : Nat) (v : Value) (xs : List Int) (hs : a.eval s = v) (hown : OwnI w B v xs) (ad : Addr) (c : Nat) (y : Int) (hx : a.eval x = .slice (some ad) 1 c) (hc : w.cell? ad = some (.int .i64 y))
    (hl : xs.length ≤ 1000000000) (hB : B ≤ w.heap.size)
    (h : ∀ v' w', OwnI w' B v' (xs ++ [y]) → w.grownBy w' v.ownBlock → wpList Try.prog ops Q rest (a.put o.dst v') w') : wpList Try.prog ops Q (o :: rest) a w := by
  obtain ⟨i0, hi, hz0, hz1, hz2⟩ := info_parts info_i
  refine wpList_append_own w hgd s x 32 ho B 2 i0 (.int .i64 0) 1 8 Try.underlying32 hi hz0 hz1 hz2 rfl (by decide) v xs.length (xs.map (Value.int .i64)) hs hown ad 1 c [.int .i64 y] hx rfl ?_ ?_ ?_ ?_ hB ?_
  · intro j u hj
    match j, hj with
    | 0, hj =>
      simp only [List.getElem?_cons_zero, Option.some.injEq] at hj
      subst hj
      have : ad.add 0 = ad := by simp [Addr.add]
      rw [this]; exact hc
  · intro u hu; simp only [List.mem_singleton] at hu; subst hu; rfl
  · have : maxLen = 9223372036854775807 := rfl
    omega
  · omega
  · intro v' w' h1 h2 _
    refine h v' w' ?_ h2
    unfold OwnI
    simpa using h1

/-- append of a whole slice of integers -/
theorem app_is {ops : Array Oper} {rest : List Oper} {o : Oper} {a : Act} {Q : Exit → Act → World → Prop} {w : World} (hgd : o.guard = none) (s x : Operand)
    (ho : o.op = .call { callee := .builtin .append, args := #[s, x], argTypes := #[32, 32] })
    (B : Nat) (v : Value) (xs : List Int) (hs : a.eval s = v) (hown : OwnI w B v xs) (ad : Option Addr) (c : Nat) (ys : List Int) (hx : a.eval x = .slice ad ys.length c) (hn : ad = none → c = 0) (hc : IntsAt w ad ys)
    (hl : xs.length + ys.length ≤ 1000000000) (hB : B ≤ w.heap.size)
    (h : ∀ v' w', OwnI w' B v' (xs ++ ys) → w.grownBy w' v.ownBlock → wpList Try.prog ops Q rest (a.put o.dst v') w') : wpList Try.prog ops Q (o :: rest) a w := by
  obtain ⟨i0, hi, hz0, hz1, hz2⟩ := info_parts info_i
  cases ad with
  | none =>
    have hy : ys = [] := by
      by_cases e : ys = []
      · exact e
      · obtain ⟨b, o, h1, _⟩ := hc.2 e
        simp at h1
    subst hy
    rw [hn rfl] at hx
    refine wpList_append_own_none hgd s x 32 ho B 2 i0 1 Try.underlying32 hi v xs.length (xs.map (Value.int .i64)) hs hown hx ?_
    exact h v w (by simpa using hown) (World.grownBy.refl' w v.ownBlock)
  | some ad =>
    refine wpList_append_own w hgd s x 32 ho B 2 i0 (.int .i64 0) 1 8 Try.underlying32 hi hz0 hz1 hz2 rfl (by decide) v xs.length (xs.map (Value.int .i64)) hs hown ad ys.length c (ys.map (Value.int .i64)) hx (by simp) ?_ ?_ ?_ ?_ hB ?_
    · intro j u hj
      have hlt : j < ys.length := by
        rcases Nat.lt_or_ge j ys.length with h | h
        · exact h
        · rw [List.getElem?_eq_none (by simpa using h)] at hj; simp at hj
      obtain ⟨b, o, e, hcc⟩ := hc.at hlt
      simp only [Option.some.injEq] at e
      subst e
      rw [Addr.add_lit, hcc j hlt]
      simp [hlt] at hj
      rw [nth_of_lt hlt, hj]
    · intro u hu
      simp only [List.mem_map] at hu
      obtain ⟨n, _, rfl⟩ := hu
      rfl
    · have : maxLen = 9223372036854775807 := rfl
      omega
    · omega
    · intro v' w' h1 h2 _
      refine h v' w' ?_ h2
      unfold OwnI
      simpa using h1

/-- the header of a slice of slices -/
theorem OwnM.hdr {w : World} {B : Nat} {v : Value} {m : List (List Int)} (h : OwnM w B v m) :
    ∃ (A : Nat → Option Addr) (C : Nat → Nat), w.ownsRow B 32 1 v m.length ((List.range m.length).map fun i => .slice (A i) (row m i).length (C i)) ∧
      (∀ i, i < m.length → OwnI w B (.slice (A i) (row m i).length (C i)) (row m i)) ∧ (∀ i j r o o', i < m.length → j < m.length → i ≠ j → A i = some ⟨r, o, none⟩ → A j ≠ some ⟨r, o', none⟩) ∧
      (∀ i r o, i < m.length → A i = some ⟨r, o, none⟩ → v.ownBlock ≠ some r) := by
  rcases h with ⟨rfl, rfl⟩ | ⟨g, cap, A, C, rfl, hM⟩
  · exact ⟨fun _ => none, fun _ => 0, World.ownsRow_nil _ _ _ _, fun i hi => absurd hi (Nat.not_lt_zero _), fun i j r o o' hi => absurd hi (Nat.not_lt_zero _), fun i r o hi => absurd hi (Nat.not_lt_zero _)⟩
  · obtain ⟨c, h1, h2, h3⟩ := hM.hdr
    refine ⟨A, C, ⟨by simp, .inr ⟨g, cap, c, rfl, hM.hB, h1, hM.le, hM.mx, by omega, ?_⟩⟩, hM.own, hM.dj, fun i r o hi ha e => ?_⟩
    · apply List.ext_getElem?
      intro i
      by_cases hi : i < m.length
      · rw [List.getElem?_take, if_pos (by omega), Array.getElem?_toList, h3 i hi]
        simp [hi]
      · rw [List.getElem?_eq_none (by simp; omega), List.getElem?_eq_none (by simp; omega)]
    · simp only [Value.ownBlock, Option.some.injEq] at e
      exact hM.ne i r o hi ha e.symm
theorem OwnM.of_hdr {w : World} {B : Nat} {v : Value} {m : List (List Int)} {A : Nat → Option Addr} {C : Nat → Nat}
    (h : w.ownsRow B 32 1 v m.length ((List.range m.length).map fun i => .slice (A i) (row m i).length (C i)))
    (own : ∀ i, i < m.length → OwnI w B (.slice (A i) (row m i).length (C i)) (row m i)) (dj : ∀ i j r o o', i < m.length → j < m.length → i ≠ j → A i = some ⟨r, o, none⟩ → A j ≠ some ⟨r, o', none⟩) : OwnM w B v m := by
  rcases h.2 with ⟨rfl, h2⟩ | ⟨g, cap, cur, rfl, h2, h3, h4, h5, h6, h7⟩
  · exact .inl ⟨rfl, List.eq_nil_of_length_eq_zero h2⟩
  · refine .inr ⟨g, cap, A, C, rfl, ⟨cur, h3, by omega, fun i hi => ?_⟩, h2, h4, h5, own, fun i r o hi ha e => ?_, dj⟩
    · have e : (cur.toList.take (m.length * 1))[i]? = ((List.range m.length).map fun i => Value.slice (A i) (row m i).length (C i))[i]? := by rw [h7]
      rw [List.getElem?_take, if_pos (by omega)] at e
      rw [← Array.getElem?_toList, e]
      simp [hi]
    · have ho := own i hi
      rw [ha] at ho
      rcases ho.2 with ⟨h1, _⟩ | ⟨g', cap', cur', h1, _, h8, _⟩
      · simp at h1
      · simp only [Value.slice.injEq, Option.some.injEq, Addr.mk.injEq, and_true, true_and] at h1
        rw [← h1.1.1, e, h3] at h8
        simp at h8

/-- append of one row that is new -/
theorem app_m {ops : Array Oper} {rest : List Oper} {o : Oper} {a : Act} {Q : Exit → Act → World → Prop} {w w1 : World} (hgd : o.guard = none) (s x : Operand)
    (ho : o.op = .call { callee := .builtin .append, args := #[s, x], argTypes := #[22, 22] })
    (B : Nat) (v : Value) (m : List (List Int)) (hs : a.eval s = v) (hown : OwnM w1 B v m) (he : Ext w1 w) (ad : Addr) (c : Nat) (ar : Option Addr) (cr : Nat) (ys : List Int) (hx : a.eval x = .slice (some ad) 1 c)
    (hc : w.cell? ad = some (.slice ar ys.length cr)) (hr : OwnI w w1.heap.size (.slice ar ys.length cr) ys)
    (hl : m.length ≤ 1000000000) (hB : B ≤ w1.heap.size)
    (h : ∀ v' w', OwnM w' B v' (m ++ [ys]) → w.grownBy w' v.ownBlock → wpList Try.prog ops Q rest (a.put o.dst v') w') : wpList Try.prog ops Q (o :: rest) a w := by
  obtain ⟨A, C, h1, h2, h3, h4⟩ := (hown.ext he).hdr
  obtain ⟨i0, hi, hz0, hz1, hz2⟩ := info_parts info_l
  have hlt : ∀ i r o, i < m.length → A i = some ⟨r, o, none⟩ → r < w1.heap.size := by
    intro i r o hi ha
    obtain ⟨A', C', h1', h2', _⟩ := hown.hdr
    have e : ((List.range m.length).map fun i => Value.slice (A i) (row m i).length (C i)) = ((List.range m.length).map fun i => Value.slice (A' i) (row m i).length (C' i)) := by
      have hf := (hown.ext he)
      rcases h1.2 with ⟨_, h0⟩ | ⟨g, cap, cur, ev, _, hg, _, _, _, ht⟩
      · rw [h0] at hi; exact absurd hi (Nat.not_lt_zero _)
      · rcases h1'.2 with ⟨_, h0⟩ | ⟨g', cap', cur', ev', _, hg', _, _, _, ht'⟩
        · rw [h0] at hi; exact absurd hi (Nat.not_lt_zero _)
        · rw [ev] at ev'
          simp only [Value.slice.injEq, Option.some.injEq, Addr.mk.injEq, and_true, true_and] at ev'
          obtain ⟨rfl, rfl⟩ := ev'
          rw [Below.block he g (Array.getElem?_eq_some_iff.1 hg').1, hg'] at hg
          simp only [Option.some.injEq, Obj.cells.injEq, and_true] at hg
          rw [← ht, ← ht', hg]
    have e' := congrArg (fun l => l[i]?) e
    simp only [List.getElem?_map, List.getElem?_range hi, Option.map_some, Option.some.injEq, Value.slice.injEq, true_and] at e'
    have ho := h2' i hi
    rw [← e'.1, ha] at ho
    exact (ho.lt (k := r) rfl).2
  have hnr : ∀ r o, ar = some ⟨r, o, none⟩ → w1.heap.size ≤ r := fun r o e => by subst e; exact (hr.lt (k := r) rfl).1
  have hvlt : ∀ k, v.ownBlock = some k → k < w1.heap.size := by
    intro k hk
    obtain ⟨A', C', h1', _⟩ := hown.hdr
    exact (h1'.lt k hk).2
  refine wpList_append_own w hgd s x 22 ho B 32 i0 (.slice none 0 0) 1 24 Try.underlying22 hi hz0 hz1 hz2 rfl (by decide) v m.length _ hs h1 ad 1 c [.slice ar ys.length cr] hx rfl ?_ ?_ ?_ ?_ (Nat.le_trans hB he.size) ?_
  · intro j u hj
    match j, hj with
    | 0, hj =>
      simp only [List.getElem?_cons_zero, Option.some.injEq] at hj
      subst hj
      have : ad.add 0 = ad := by simp [Addr.add]
      rw [this]; exact hc
  · intro u hu; simp only [List.mem_singleton] at hu; subst hu; rfl
  · have : maxLen = 9223372036854775807 := rfl
    omega
  · omega
  · intro v' w' hw hg _
    refine h v' w' ?_ hg
    have keep : ∀ (u : Value) (zs : List Int), OwnI w B u zs → (∀ k, u.ownBlock = some k → v.ownBlock ≠ some k) → OwnI w' B u zs := fun u zs hu hne =>
      hu.agree fun k hk => hg.block k (hu.lt hk).2 fun e => hne k hk e.symm
    have hrow : ∀ i, row (m ++ [ys]) i = if i = m.length then ys else row m i := fun i => by
      unfold row
      by_cases e : i = m.length
      · subst e; simp
      · rw [if_neg e]
        by_cases hlt : i < m.length
        · simp [List.getD_eq_getElem?_getD, List.getElem?_append_left hlt]
        · have : m.length < i := by omega
          simp [List.getD_eq_getElem?_getD, List.getElem?_append, hlt, show i - m.length ≠ 0 by omega]
    refine OwnM.of_hdr (A := fun i => if i = m.length then ar else A i) (C := fun i => if i = m.length then cr else C i) ?_ ?_ ?_
    · have e : ((List.range (m ++ [ys]).length).map fun i => Value.slice (if i = m.length then ar else A i) (row (m ++ [ys]) i).length (if i = m.length then cr else C i)) =
          ((List.range m.length).map fun i => .slice (A i) (row m i).length (C i)) ++ [.slice ar ys.length cr] := by
        rw [List.length_append, List.length_singleton, List.range_succ, List.map_append]
        have eA := List.map_congr_left (l := List.range m.length) (f := fun i => Value.slice (if i = m.length then ar else A i) (row (m ++ [ys]) i).length (if i = m.length then cr else C i)) (g := fun i => Value.slice (A i) (row m i).length (C i)) (fun i hi => by
          have : i ≠ m.length := by have := List.mem_range.1 hi; omega
          simp only [hrow, if_neg this])
        rw [eA]
        simp [hrow]
      rw [e, List.length_append]
      exact hw
    · intro i hi
      rw [hrow]
      by_cases e : i = m.length
      · subst e
        simp only [if_pos]
        refine keep _ _ (hr.mono hB) fun k hk e => ?_
        have := hvlt k e
        have := (hr.lt hk).1
        omega
      · simp only [if_neg e]
        have hi' : i < m.length := by simp at hi; omega
        refine keep _ _ (h2 i hi') fun k hk e => ?_
        rcases (h2 i hi').form with ⟨h5, _⟩ | ⟨r, cap, h5, _⟩
        · rw [h5] at hk; simp [Value.ownBlock] at hk
        · rw [h5] at hk
          simp only [Value.ownBlock, Option.some.injEq] at hk
          simp only [Value.slice.injEq] at h5
          rw [← hk] at e
          exact h4 i r 0 hi' h5.1 e
    · intro i j r o o' hi hj hne
      have hi' : i < m.length + 1 := by simpa using hi
      have hj' : j < m.length + 1 := by simpa using hj
      by_cases e : i = m.length
      · have e' : j ≠ m.length := by omega
        simp only [if_pos e, if_neg e']
        intro ea eb
        have := hnr r o ea
        have := hlt j r o' (by omega) eb
        omega
      · by_cases e' : j = m.length
        · simp only [if_neg e, if_pos e']
          intro ea eb
          have := hnr r o' eb
          have := hlt i r o (by omega) ea
          omega
        · simp only [if_neg e, if_neg e']
          exact h3 i j r o o' (by omega) (by omega) hne

theorem OwnI.base {w : World} {B : Nat} {v : Value} {xs : List Int} (h : OwnI w B v xs) : ∀ k, v.ownBlock = some k → B ≤ k := fun k hk => (h.lt hk).1
theorem OwnM.base {w : World} {B : Nat} {v : Value} {m : List (List Int)} (h : OwnM w B v m) : ∀ k, v.ownBlock = some k → B ≤ k := fun k hk => by
  obtain ⟨A, C, h1, _⟩ := h.hdr
  exact (h1.lt k hk).1

theorem OwnI.empty (w : World) (B : Nat) (hB : B ≤ w.heap.size) : OwnI (w.alloc (.cells #[] 2)) B (.slice (some ⟨w.heap.size, 0, none⟩) 0 0) [] :=
  World.ownsRow_lit w #[] 0 hB (Nat.zero_le _) rfl
theorem OwnM.empty (w : World) (B : Nat) (hB : B ≤ w.heap.size) : OwnM (w.alloc (.cells #[] 32)) B (.slice (some ⟨w.heap.size, 0, none⟩) 0 0) [] :=
  OwnM.of_hdr (m := []) (A := fun _ => none) (C := fun _ => 0) (World.ownsRow_lit w #[] 0 hB (Nat.zero_le _) rfl) (fun i hi => absurd hi (Nat.not_lt_zero _)) (fun i j r o o' hi => absurd hi (Nat.not_lt_zero _))
/-- append of one integer that a new cell holds: what the walk wants at the place -/
theorem grown_i {w0 wr w' : World} {B : Nat} {v : Value} {xs : List Int} {o : Obj} (hE : Ext w0 wr) (hO : OwnI wr B v xs) (hB : w0.heap.size ≤ B) (hg : (wr.alloc o).grownBy w' v.ownBlock) : Ext w0 w' :=
  Below.grown (hE.alloc o) hg (hE.alloc o).size (fun k hk => Nat.le_trans hB (hO.base k hk))
theorem grown_m {w0 wr w' : World} {B : Nat} {v : Value} {m : List (List Int)} {o : Obj} (hE : Ext w0 wr) (hO : OwnM wr B v m) (hB : w0.heap.size ≤ B) (hg : (wr.alloc o).grownBy w' v.ownBlock) : Ext w0 w' :=
  Below.grown (hE.alloc o) hg (hE.alloc o).size (fun k hk => Nat.le_trans hB (hO.base k hk))
theorem Ext.grown {w0 w w' : World} {row : Option Nat} (h : Ext w0 w) (hg : w.grownBy w' row) (hr : ∀ k, row = some k → w0.heap.size ≤ k) : Ext w0 w' := Below.grown h hg h.size hr
end Go.Proofs.Ytljchmkoafahgaa
