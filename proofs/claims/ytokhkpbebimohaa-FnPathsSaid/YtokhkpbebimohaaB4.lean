/- Append of one new row, as a step of a region that draws its order. Conditions: the forms of the slices. -/
import Derived.Test.YtokhkpbebimohaaGO
import Derived.Deep.AppendLies
namespace Go.Proofs.Ytokhkpbebimohaa
set_option linter.unusedVariables false
set_option linter.unusedSimpArgs false
open Go.RowKit

/-- what is behind an append of one row that is new -/
theorem OwnM.push {w w1 : World} (B : Nat) (v : Value) (m : List (List Int)) (hown : OwnM w1 B v m) (he : Ext w1 w) (ar : Option Addr) (cr : Nat) (ys : List Int) (hr : OwnI w w1.heap.size (.slice ar ys.length cr) ys) (hB : B ≤ w1.heap.size) :
    ∃ vals : List Value, w.ownsRow B 34 1 v m.length vals ∧ ∀ v' w', w'.ownsRow B 34 1 v' (m.length + 1) (vals ++ [.slice ar ys.length cr]) → w.grownBy w' v.ownBlock → OwnM w' B v' (m ++ [ys]) := by
  obtain ⟨A, C, h1, h2, h3, h4⟩ := (hown.ext he).hdr
  have hlt : ∀ i r o, i < m.length → A i = some ⟨r, o, none⟩ → r < w1.heap.size := by
    intro i r o hi ha
    obtain ⟨A', C', h1', h2', _⟩ := hown.hdr
    have e : ((List.range m.length).map fun i => Value.slice (A i) (row m i).length (C i)) = ((List.range m.length).map fun i => Value.slice (A' i) (row m i).length (C' i)) := by
      have hf := (hown.ext he)
      rcases h1.2 with ⟨_, h0⟩ | ⟨g, cap, cur, ev, _, hg, _, _, _, ht⟩
      · rw [h0] at hi; exact absurd hi (Nat.not_lt_zero _)
      · rcases h1'.2 with ⟨_, h0⟩ | ⟨g', cap', cur', ev', _, hg', _, _, _, ht'⟩
        · rw [h0] at hi; exact absurd hi (Nat.not_lt_zero _)
        · rw [ev] at ev'
          simp only [Value.slice.injEq, Option.some.injEq, Addr.mk.injEq, and_true, true_and] at ev'
          obtain ⟨rfl, rfl⟩ := ev'
          rw [Below.block he g (Array.getElem?_eq_some_iff.1 hg').1, hg'] at hg
          simp only [Option.some.injEq, Obj.cells.injEq, and_true] at hg
          rw [← ht, ← ht', hg]
    have e' := congrArg (fun l => l[i]?) e
    simp only [List.getElem?_map, List.getElem?_range hi, Option.map_some, Option.some.injEq, Value.slice.injEq, true_and] at e'
    have ho := h2' i hi
    rw [← e'.1, ha] at ho
    exact (ho.lt (k := r) rfl).2
  have hnr : ∀ r o, ar = some ⟨r, o, none⟩ → w1.heap.size ≤ r := fun r o e => by subst e; exact (hr.lt (k := r) rfl).1
  have hvlt : ∀ k, v.ownBlock = some k → k < w1.heap.size := by
    intro k hk
    obtain ⟨A', C', h1', _⟩ := hown.hdr
    exact (h1'.lt k hk).2
  refine ⟨_, h1, fun v' w' hw hg => ?_⟩
  have keep : ∀ (u : Value) (zs : List Int), OwnI w B u zs → (∀ k, u.ownBlock = some k → v.ownBlock ≠ some k) → OwnI w' B u zs := fun u zs hu hne =>
    hu.agree fun k hk => hg.block k (hu.lt hk).2 fun e => hne k hk e.symm
  have hrow : ∀ i, row (m ++ [ys]) i = if i = m.length then ys else row m i := fun i => by
    unfold row
    by_cases e : i = m.length
    · subst e; simp
    · rw [if_neg e]
      by_cases hlt : i < m.length
      · simp [List.getD_eq_getElem?_getD, List.getElem?_append_left hlt]
      · have : m.length < i := by omega
        simp [List.getD_eq_getElem?_getD, List.getElem?_append, hlt, show i - m.length ≠ 0 by omega]
  refine OwnM.of_hdr (A := fun i => if i = m.length then ar else A i) (C := fun i => if i = m.length then cr else C i) ?_ ?_ ?_
  · have e : ((List.range (m ++ [ys]).length).map fun i => Value.slice (if i = m.length then ar else A i) (row (m ++ [ys]) i).length (if i = m.length then cr else C i)) =
        ((List.range m.length).map fun i => .slice (A i) (row m i).length (C i)) ++ [.slice ar ys.length cr] := by
      rw [List.length_append, List.length_singleton, List.range_succ, List.map_append]
      have eA := List.map_congr_left (l := List.range m.length) (f := fun i => Value.slice (if i = m.length then ar else A i) (row (m ++ [ys]) i).length (if i = m.length then cr else C i)) (g := fun i => Value.slice (A i) (row m i).length (C i)) (fun i hi => by
        have : i ≠ m.length := by have := List.mem_range.1 hi; omega
        simp only [hrow, if_neg this])
      rw [eA]
      simp [hrow]
    rw [e, List.length_append]
    exact hw
  · intro i hi
    rw [hrow]
    by_cases e : i = m.length
    · subst e
      simp only [if_pos]
      refine keep _ _ (hr.mono hB) fun k hk e => ?_
      have := hvlt k e
      have := (hr.lt hk).1
      omega
    · simp only [if_neg e]
      have hi' : i < m.length := by simp at hi; omega
      refine keep _ _ (h2 i hi') fun k hk e => ?_
      rcases (h2 i hi').form with ⟨h5, _⟩ | ⟨r, cap, h5, _⟩
      · rw [h5] at hk; simp [Value.ownBlock] at hk
      · rw [h5] at hk
        simp only [Value.ownBlock, Option.some.injEq] at hk
        simp only [Value.slice.injEq] at h5
        rw [← hk] at e
        exact h4 i r 0 hi' h5.1 e
  · intro i j r o o' hi hj hne
    have hi' : i < m.length + 1 := by simpa using hi
    have hj' : j < m.length + 1 := by simpa using hj
    by_cases e : i = m.length
    · have e' : j ≠ m.length := by omega
      simp only [if_pos e, if_neg e']
      intro ea eb
      have := hnr r o ea
      have := hlt j r o' (by omega) eb
      omega
    · by_cases e' : j = m.length
      · simp only [if_neg e, if_pos e']
        intro ea eb
        have := hnr r o' eb
        have := hlt i r o (by omega) ea
        omega
      · simp only [if_neg e, if_neg e']
        exact h3 i j r o o' (by omega) (by omega) hne

/-- append of one row that is new, as a step of a region that draws -/
theorem step_app_m {ops : Array Oper} {o : Oper} {a : Act} {K : Act → World → Prop} {Q : Exit → Act → World → Prop} {E : Prop} {w w1 : World} (hgd : o.guard = none) (s x : Operand)
    (ho : o.op = .call { callee := .builtin .append, args := #[s, x], argTypes := #[24, 24] })
    (B : Nat) (v : Value) (m : List (List Int)) (hs : a.eval s = v) (hown : OwnM w1 B v m) (he : Ext w1 w) (ad : Addr) (c : Nat) (ar : Option Addr) (cr : Nat) (ys : List Int) (hx : a.eval x = .slice (some ad) 1 c)
    (hc : w.cell? ad = some (.slice ar ys.length cr)) (hr : OwnI w w1.heap.size (.slice ar ys.length cr) ys) (hl : m.length ≤ 1000000000) (hB : B ≤ w1.heap.size)
    (h : ∀ v' w', OwnM w' B v' (m ++ [ys]) → w.grownBy w' v.ownBlock → K (a.put o.dst v') w') :
    if Region.wanted o (yielded ops a.tmps) = true then Oper.wp Try.prog o a w K Q else E := by
  obtain ⟨vals, hv, hpush⟩ := OwnM.push B v m hown he ar cr ys hr hB
  obtain ⟨i0, hi, hz0, hz1, hz2⟩ := info_parts info_l
  refine step_append_lies w hgd s x 24 ho B 34 i0 (.slice none 0 0) 1 24 Try.underlying24 hi hz0 hz1 hz2 rfl (by decide) v m.length vals hs hv ad 1 c [.slice ar ys.length cr] hx rfl ?_ ?_ (by decide) ?_ ?_ (Nat.le_trans hB he.size) _ rfl ?_
  · intro j u hj
    match j, hj with
    | 0, hj =>
      simp only [List.getElem?_cons_zero, Option.some.injEq] at hj
      subst hj
      have : ad.add 0 = ad := by simp [Addr.add]
      rw [this]; exact hc
  · intro u hu; simp only [List.mem_singleton] at hu; subst hu; rfl
  · have : maxLen = 9223372036854775807 := rfl
    omega
  · omega
  · intro g cap w' h1 h2 _ _
    exact h _ w' (hpush _ w' h1 h2) h2

end Go.Proofs.Ytokhkpbebimohaa
