/- Slices that the call itself has made: of integers, and of slices of integers. Definitions and lemmas; no condition. -/
import Derived.Test.YtljchmkoafahgaaB
import Derived.Test.YtljchmkoafahgaaRows
namespace Go.Proofs.Ytljchmkoafahgaa
set_option linter.unusedVariables false
open Go.RowKit

theorem info_i : (Try.prog.info? 2).map (fun i => (i.zero, i.size, i.bytes)) = some (some (.int .i64 0), 1, 8) := by kernel_rfl
theorem info_l : (Try.prog.info? 32).map (fun i => (i.zero, i.size, i.bytes)) = some (some (.slice none 0 0), 1, 24) := by kernel_rfl

def iv (n : Int) : Value := .int .i64 n

/-- v is a slice of new memory (from block B on) that holds the integers xs -/
def OwnI (w : World) (B : Nat) (v : Value) (xs : List Int) : Prop := w.ownsRow B 2 1 v xs.length (xs.map (Value.int .i64))

theorem OwnI.nil (w : World) (B : Nat) : OwnI w B (.slice none 0 0) [] := World.ownsRow_nil w B 2 1
theorem OwnI.mono {w : World} {B B' : Nat} {v : Value} {xs : List Int} (h : OwnI w B v xs) (hb : B' ≤ B) : OwnI w B' v xs := by
  refine ⟨h.1, ?_⟩
  rcases h.2 with h2 | ⟨g, cap, cur, h1, h2, h3⟩
  · exact .inl h2
  · exact .inr ⟨g, cap, cur, h1, by omega, h3⟩
theorem OwnI.agree {w w' : World} {B : Nat} {v : Value} {xs : List Int} (h : OwnI w B v xs) (e : ∀ k, v.ownBlock = some k → w'.heap[k]? = w.heap[k]?) : OwnI w' B v xs := by
  refine ⟨h.1, ?_⟩
  rcases h.2 with h2 | ⟨g, cap, cur, h1, h2, h3, h4⟩
  · exact .inl h2
  · exact .inr ⟨g, cap, cur, h1, h2, by rw [e g (by rw [h1]; rfl)]; exact h3, h4⟩
theorem OwnI.lt {w : World} {B : Nat} {v : Value} {xs : List Int} (h : OwnI w B v xs) {k : Nat} (hk : v.ownBlock = some k) : B ≤ k ∧ k < w.heap.size := World.ownsRow.lt h k hk
theorem OwnI.ext {w w' : World} {B : Nat} {v : Value} {xs : List Int} (h : OwnI w B v xs) (e : Ext w w') : OwnI w' B v xs :=
  h.agree fun k hk => Below.block e k (h.lt hk).2

/-- the form of such a slice -/
theorem OwnI.form {w : World} {B : Nat} {v : Value} {xs : List Int} (h : OwnI w B v xs) :
    (v = .slice none 0 0 ∧ xs = []) ∨ ∃ g cap, v = .slice (some ⟨g, 0, none⟩) xs.length cap ∧ B ≤ g ∧ g < w.heap.size ∧ xs.length ≤ cap ∧ cap ≤ 9223372036854775807 ∧
      (∀ j, j < xs.length → w.cell? ⟨g, j, none⟩ = some (.int .i64 (nth xs j))) ∧ (∀ j, w.frozen? ⟨g, j, none⟩ = false) := by
  rcases h.2 with ⟨h1, h2⟩ | ⟨g, cap, cur, h1, h2, h3, h4, h5, _⟩
  · exact .inl ⟨h1, List.eq_nil_of_length_eq_zero h2⟩
  · subst h1
    refine .inr ⟨g, cap, rfl, h2, (Array.getElem?_eq_some_iff.1 h3).1, h4, h5, fun j hj => ?_, fun j => World.ownsRow.frozenAt h j⟩
    rw [World.ownsRow.cellAt h j (by omega)]
    simp [nth, hj]
theorem OwnI.at {w : World} {B : Nat} {v : Value} {xs : List Int} (h : OwnI w B v xs) : ∃ a cap, v = .slice a xs.length cap ∧ IntsAt w a xs := by
  rcases h.form with ⟨rfl, rfl⟩ | ⟨g, cap, rfl, _, _, h1, h2, hc, _⟩
  · exact ⟨none, 0, rfl, IntsAt.nil _ _⟩
  · exact ⟨_, cap, rfl, by omega, fun _ => ⟨g, 0, rfl, fun i hi => by simpa using hc i hi⟩⟩
theorem OwnI.ints {w : World} {B : Nat} {a : Option Addr} {n cap : Nat} {xs : List Int} (h : OwnI w B (.slice a n cap) xs) : IntsAt w a xs := by
  obtain ⟨a', cap', e, hx⟩ := h.at
  simp only [Value.slice.injEq] at e
  obtain ⟨rfl, _, _⟩ := e
  exact hx
theorem OwnI.nocap {w : World} {B : Nat} {a : Option Addr} {n cap : Nat} {xs : List Int} (h : OwnI w B (.slice a n cap) xs) : a = none → cap = 0 := by
  intro e
  subst e
  rcases h.form with ⟨h1, _⟩ | ⟨g, cap', h1, _⟩
  · simp only [Value.slice.injEq] at h1; exact h1.2.2
  · simp at h1
theorem OwnI.len {w : World} {B : Nat} {a : Option Addr} {n cap : Nat} {xs : List Int} (h : OwnI w B (.slice a n cap) xs) : n = xs.length := by
  obtain ⟨a', cap', e, hx⟩ := h.at
  simp only [Value.slice.injEq] at e
  exact e.2.1
/-- what make has laid and a loop has filled -/
theorem OwnI.of_row {w : World} {B g n : Nat} {xs : List Int} (h : w.rowIs g 2 n (fun j => .int .i64 (nth xs j))) (hn : xs.length = n) (hB : B ≤ g) (hm : n ≤ 9223372036854775807) :
    OwnI w B (.slice (some ⟨g, 0, none⟩) n n) xs := by
  obtain ⟨c, hb, hs, hc⟩ := h
  subst hn
  refine ⟨by simp, .inr ⟨g, xs.length, c, rfl, hB, hb, Nat.le_refl _, hm, by omega, ?_⟩⟩
  rw [List.take_of_length_le (by simp; omega)]
  apply List.ext_getElem
  · simp; omega
  · intro i h1 h2
    have h3 : i < xs.length := by simpa using h2
    have := hc i h3
    simp only [Array.getElem_toList, List.getElem_map]
    rw [Array.getElem?_eq_getElem (by omega)] at this
    simp only [Option.some.injEq] at this
    rw [this, nth_of_lt h3]
theorem OwnI.row {w : World} {B g cap : Nat} {xs : List Int} (h : OwnI w B (.slice (some ⟨g, 0, none⟩) xs.length cap) xs) :
    ∃ c : Array Value, w.heap[g]? = some (.cells c 2 (0, 0)) ∧ c.size = cap ∧ xs.length ≤ cap ∧ cap ≤ 9223372036854775807 ∧ ∀ j, j < xs.length → c[j]? = some (.int .i64 (nth xs j)) := by
  rcases h.2 with ⟨h1, _⟩ | ⟨g', cap', cur, h1, h2, h3, h4, h5, h6, h7⟩
  · simp at h1
  · simp only [Value.slice.injEq, Option.some.injEq, Addr.mk.injEq, and_true, true_and] at h1
    obtain ⟨rfl, rfl⟩ := h1
    refine ⟨cur, h3, by omega, h4, h5, fun j hj => ?_⟩
    have : (cur.toList.take (xs.length * 1))[j]? = (xs.map (Value.int .i64))[j]? := by rw [h7]
    rw [List.getElem?_take, if_pos (by omega)] at this
    rw [← Array.getElem?_toList, this]
    simp [nth, hj]
/-- a store into such a slice -/
theorem OwnI.set {w : World} {B g cap : Nat} {xs : List Int} (h : OwnI w B (.slice (some ⟨g, 0, none⟩) xs.length cap) xs) (j : Nat) (x : Int) :
    OwnI (w.setCell ⟨g, j, none⟩ (.int .i64 x)) B (.slice (some ⟨g, 0, none⟩) xs.length cap) (xs.set j x) := by
  have := (World.ownsRow.stored h j (.int .i64 x)).1
  unfold OwnI
  rw [List.map_set, List.length_set]
  exact this

theorem nth_replicate (n : Nat) (x : Int) {j : Nat} (h : j < n) : nth (List.replicate n x) j = x := by simp [nth, h]
/-- what make has laid -/
theorem OwnI.made (w : World) (B n : Nat) (hB : B ≤ w.heap.size) (hn : n ≤ 9223372036854775807) :
    OwnI (w.alloc (.cells (madeCells #[.int .i64 0] n) 2)) B (.slice (some ⟨w.heap.size, 0, none⟩) (List.replicate n (0 : Int)).length n) (List.replicate n 0) := by
  have := OwnI.of_row (xs := List.replicate n 0) ((World.rowIs_made w (.int .i64 0) n 2).congr fun j hj => by rw [nth_replicate n 0 hj]) (by simp) hB hn
  rw [List.length_replicate]; exact this

/-- such a slice, not empty, opened -/
theorem OwnI.open {w : World} {B n cap : Nat} {a : Option Addr} {xs : List Int} (h : OwnI w B (.slice a n cap) xs) (hn : 0 < n) :
    ∃ g, a = some ⟨g, 0, none⟩ ∧ B ≤ g ∧ g < w.heap.size ∧ (∀ j, j < n → w.cell? ⟨g, j, none⟩ = some (.int .i64 (nth xs j))) ∧ (∀ j, w.frozen? ⟨g, j, none⟩ = false) := by
  have hl := h.len
  subst hl
  rcases h.form with ⟨h1, h2⟩ | ⟨g, cap', h1, h2, h3, _, _, h4, h5⟩
  · rw [h2] at hn; simp at hn
  · simp only [Value.slice.injEq] at h1
    exact ⟨g, h1.1, h2, h3, h4, h5⟩

/-- a slice of new slices of integers: its own row is block g -/
structure Mat (w : World) (B g cap : Nat) (A : Nat → Option Addr) (C : Nat → Nat) (m : List (List Int)) : Prop where
  hdr : ∃ c : Array Value, w.heap[g]? = some (.cells c 32 (0, 0)) ∧ c.size = cap ∧ ∀ i, i < m.length → c[i]? = some (.slice (A i) (row m i).length (C i))
  hB : B ≤ g
  le : m.length ≤ cap
  mx : cap ≤ 9223372036854775807
  own : ∀ i, i < m.length → OwnI w B (.slice (A i) (row m i).length (C i)) (row m i)
  ne : ∀ i r o, i < m.length → A i = some ⟨r, o, none⟩ → r ≠ g
  dj : ∀ i j r o o', i < m.length → j < m.length → i ≠ j → A i = some ⟨r, o, none⟩ → A j ≠ some ⟨r, o', none⟩

/-- v is a slice of new memory that holds the lists m, no two of them in one place -/
def OwnM (w : World) (B : Nat) (v : Value) (m : List (List Int)) : Prop :=
  (v = .slice none 0 0 ∧ m = []) ∨ ∃ g cap A C, v = .slice (some ⟨g, 0, none⟩) m.length cap ∧ Mat w B g cap A C m

section
variable {w w' : World} {B g cap : Nat} {A : Nat → Option Addr} {C : Nat → Nat} {m : List (List Int)}

theorem Mat.cell (h : Mat w B g cap A C m) {i : Nat} (hi : i < m.length) : w.cell? ⟨g, i, none⟩ = some (.slice (A i) (row m i).length (C i)) := by
  obtain ⟨c, h1, _, h3⟩ := h.hdr
  simp [World.cell?, h1, h3 i hi]
theorem Mat.frozen (h : Mat w B g cap A C m) (i : Nat) : w.frozen? ⟨g, i, none⟩ = false := by
  obtain ⟨c, h1, _, h3⟩ := h.hdr
  simp [World.frozen?, h1]
theorem Mat.lt (h : Mat w B g cap A C m) : g < w.heap.size := by
  obtain ⟨c, h1, _, h3⟩ := h.hdr
  exact (Array.getElem?_eq_some_iff.1 h1).1
/-- where row i lies -/
theorem Mat.addr (h : Mat w B g cap A C m) {i : Nat} (hi : i < m.length) (h0 : 0 < (row m i).length) :
    ∃ r, A i = some ⟨r, 0, none⟩ ∧ B ≤ r ∧ r < w.heap.size ∧ (∀ j, j < (row m i).length → w.cell? ⟨r, j, none⟩ = some (.int .i64 (ent m i j))) ∧ (∀ j, w.frozen? ⟨r, j, none⟩ = false) := by
  rcases (h.own i hi).form with ⟨h1, h2⟩ | ⟨r, cap', h1, h2, h3, _, _, h4, h5⟩
  · rw [h2] at h0; simp at h0
  · simp only [Value.slice.injEq] at h1
    exact ⟨r, h1.1, h2, h3, h4, h5⟩
theorem Mat.mono {B' : Nat} (h : Mat w B g cap A C m) (hb : B' ≤ B) : Mat w B' g cap A C m :=
  { h with hB := Nat.le_trans hb h.hB, own := fun i hi => (h.own i hi).mono hb }
theorem Mat.agree (h : Mat w B g cap A C m) (e : ∀ k, B ≤ k → k < w.heap.size → w'.heap[k]? = w.heap[k]?) : Mat w' B g cap A C m :=
  { h with
    hdr := by rw [e g h.hB h.lt]; exact h.hdr
    own := fun i hi => (h.own i hi).agree fun k hk => e k ((h.own i hi).lt hk).1 ((h.own i hi).lt hk).2 }
theorem Mat.ext (h : Mat w B g cap A C m) (e : Ext w w') : Mat w' B g cap A C m := h.agree fun k _ hk => Below.block e k hk

theorem row_set (m : List (List Int)) (i j : Nat) (xs : List Int) (hi : i < m.length) : row (m.set i xs) j = if j = i then xs else row m j := by
  unfold row
  by_cases h : j = i
  · subst h; simp [hi]
  · rw [if_neg h]; simp [List.getD_eq_getElem?_getD, Ne.symm h]

/-- a store into row i -/
theorem Mat.set (h : Mat w B g cap A C m) {i : Nat} (hi : i < m.length) {r : Nat} (hr : A i = some ⟨r, 0, none⟩) (j : Nat) (x : Int) :
    Mat (w.setCell ⟨r, j, none⟩ (.int .i64 x)) B g cap A C (m.set i ((row m i).set j x)) := by
  have hrg : r ≠ g := h.ne i r 0 hi hr
  have hl : ∀ k, (row (m.set i ((row m i).set j x)) k).length = (row m k).length := fun k => by
    rw [row_set _ _ _ _ hi]; split
    · rename_i e; subst e; simp
    · rfl
  refine ⟨?_, h.hB, by simpa using h.le, h.mx, fun k hk => ?_, fun k r' o hk => h.ne k r' o (by simpa using hk), fun k k' r' o o' hk hk' => h.dj k k' r' o o' (by simpa using hk) (by simpa using hk')⟩
  · obtain ⟨c, h1, h2, h3⟩ := h.hdr
    refine ⟨c, ?_, h2, fun k hk => by rw [hl]; exact h3 k (by simpa using hk)⟩
    rw [Below.heap_setCell _ _ _ _ (fun e => hrg e.symm)]; exact h1
  · have hk' : k < m.length := by simpa using hk
    rw [hl, row_set _ _ _ _ hi]
    by_cases e : k = i
    · subst e
      rw [if_pos rfl, hr]
      have ho := h.own k hk'
      rw [hr] at ho
      exact ho.set j x
    · rw [if_neg e]
      refine (h.own k hk').agree fun b hb => Below.heap_setCell _ _ _ _ ?_
      intro eb
      cases ha : A k with
      | none => rw [ha] at hb; simp [Value.ownBlock] at hb
      | some a =>
        rcases (h.own k hk').form with ⟨h1, _⟩ | ⟨r', cap', h1, _⟩
        · rw [ha] at h1; simp at h1
        · simp only [Value.slice.injEq] at h1
          rw [h1.1] at hb
          simp only [Value.ownBlock, Option.some.injEq] at hb
          refine h.dj k i r' 0 0 hk' hi e h1.1 ?_
          rw [hr, hb, eb]

/-- a new row is laid at place i of the matrix -/
theorem Mat.setRow (h : Mat w B g cap A C m) {i : Nat} (hi : i < m.length) {a : Option Addr} {c : Nat} {xs : List Int} {S : Nat} (hS : S ≤ w.heap.size) (hg : g < S)
    (hA : ∀ k r o, k < m.length → A k = some ⟨r, o, none⟩ → r < S) (ho : OwnI w S (.slice a xs.length c) xs) (hBS : B ≤ S) :
    Mat (w.setCell ⟨g, i, none⟩ (.slice a xs.length c)) B g cap (fun k => if k = i then a else A k) (fun k => if k = i then c else C k) (m.set i xs) := by
  have hal : ∀ r o, a = some ⟨r, o, none⟩ → S ≤ r := fun r o e => by
    subst e; exact (ho.lt (k := r) rfl).1
  have hcur : ∀ (v : Value) (ys : List Int), OwnI w B v ys → (∀ k, v.ownBlock = some k → k ≠ g) → OwnI (w.setCell ⟨g, i, none⟩ (.slice a xs.length c)) B v ys := fun v ys hv hne =>
    hv.agree fun k hk => Below.heap_setCell _ _ _ _ (hne k hk)
  refine ⟨?_, h.hB, by simpa using h.le, h.mx, fun k hk => ?_, fun k r o hk => ?_, fun k k' r o o' hk hk' hne => ?_⟩
  · obtain ⟨c0, h1, h2, h3⟩ := h.hdr
    refine ⟨c0.setIfInBounds i (.slice a xs.length c), by simp [World.setCell, Array.getElem?_modify, h1], by simpa using h2, fun k hk => ?_⟩
    have hk' : k < m.length := by simpa using hk
    have hic : i < c0.size := by rw [h2]; exact Nat.lt_of_lt_of_le hi h.le
    rw [Array.getElem?_setIfInBounds, row_set _ _ _ _ hi]
    by_cases e : k = i
    · subst e; simp [hic]
    · simp only [if_neg e, if_neg (Ne.symm e)]; exact h3 k hk'
  · have hk' : k < m.length := by simpa using hk
    rw [row_set _ _ _ _ hi]
    by_cases e : k = i
    · subst e
      simp only [if_pos]
      exact hcur _ _ (ho.mono hBS) fun b hb => by have := (ho.lt hb).1; omega
    · simp only [if_neg e]
      refine hcur _ _ (h.own k hk') fun b hb => ?_
      rcases (h.own k hk').form with ⟨h1, _⟩ | ⟨r', cap', h1, _⟩
      · rw [h1] at hb; simp [Value.ownBlock] at hb
      · rw [h1] at hb
        simp only [Value.ownBlock, Option.some.injEq] at hb
        simp only [Value.slice.injEq] at h1
        rw [← hb]; exact h.ne k r' 0 hk' h1.1
  · have hk' : k < m.length := by simpa using hk
    by_cases e : k = i
    · subst e; simp only [if_pos]; intro e; have := hal r o e; omega
    · simp only [if_neg e]; exact h.ne k r o hk'
  · have h1' : k < m.length := by simpa using hk
    have h2' : k' < m.length := by simpa using hk'
    by_cases e : k = i
    · subst e
      have e' : k' ≠ k := Ne.symm hne
      simp only [if_pos, if_neg e']
      intro ea eb
      have := hal r o ea; have := hA k' r o' h2' eb; omega
    · by_cases e' : k' = i
      · subst e'
        simp only [if_pos, if_neg e]
        intro ea eb
        have := hal r o' eb; have := hA k r o h1' ea; omega
      · simp only [if_neg e, if_neg e']
        exact h.dj k k' r o o' h1' h2' hne

/-- what make has laid: a row of nil slices -/
theorem Mat.made (w : World) (n : Nat) (hB : B ≤ w.heap.size) (hn : n ≤ 9223372036854775807) :
    Mat (w.alloc (.cells (madeCells #[.slice none 0 0] n) 32)) B w.heap.size n (fun _ => none) (fun _ => 0) (List.replicate n []) := by
  obtain ⟨c, h1, h2, h3⟩ := World.rowIs_made w (.slice none 0 0) n 32
  have hr : ∀ i, row (List.replicate n []) i = [] := fun i => by
    unfold row; simp [List.getD_eq_getElem?_getD, List.getElem?_replicate]; split <;> rfl
  refine ⟨⟨c, h1, h2, fun i hi => by rw [hr]; exact h3 i (by simpa using hi)⟩, hB, by simp, hn, fun i hi => by rw [hr]; exact OwnI.nil _ _, fun _ _ _ _ e => by simp at e, fun _ _ _ _ _ _ _ _ e => by simp at e⟩

theorem Mat.at (h : Mat w B g cap A C m) : MatAt w (some ⟨g, 0, none⟩) m :=
  ⟨by have := h.le; have := h.mx; omega, fun _ => ⟨g, 0, rfl, fun i hi => ⟨A i, C i, by rw [Nat.zero_add]; exact h.cell hi, (h.own i hi).ints, (h.own i hi).nocap⟩⟩⟩
end

section
variable {w w' : World} {B : Nat} {v : Value} {m : List (List Int)}
theorem OwnM.nil (w : World) (B : Nat) : OwnM w B (.slice none 0 0) [] := .inl ⟨rfl, rfl⟩
theorem OwnM.mono {B' : Nat} (h : OwnM w B v m) (hb : B' ≤ B) : OwnM w B' v m := by
  rcases h with h | ⟨g, cap, A, C, h1, h2⟩
  · exact .inl h
  · exact .inr ⟨g, cap, A, C, h1, h2.mono hb⟩
theorem OwnM.agree (h : OwnM w B v m) (e : ∀ k, B ≤ k → k < w.heap.size → w'.heap[k]? = w.heap[k]?) : OwnM w' B v m := by
  rcases h with h | ⟨g, cap, A, C, h1, h2⟩
  · exact .inl h
  · exact .inr ⟨g, cap, A, C, h1, h2.agree e⟩
theorem OwnM.ext (h : OwnM w B v m) (e : Ext w w') : OwnM w' B v m := h.agree fun k _ hk => Below.block e k hk
theorem OwnM.at (h : OwnM w B v m) : ∃ a cap, v = .slice a m.length cap ∧ MatAt w a m := by
  rcases h with ⟨rfl, rfl⟩ | ⟨g, cap, A, C, rfl, h2⟩
  · exact ⟨none, 0, rfl, MatAt.nil _ _⟩
  · exact ⟨_, cap, rfl, h2.at⟩
theorem OwnM.mat {a : Option Addr} {n cap : Nat} (h : OwnM w B (.slice a n cap) m) : MatAt w a m := by
  obtain ⟨a', cap', e, hx⟩ := h.at
  simp only [Value.slice.injEq] at e
  obtain ⟨rfl, _, _⟩ := e
  exact hx
theorem OwnM.len {a : Option Addr} {n cap : Nat} (h : OwnM w B (.slice a n cap) m) : n = m.length := by
  obtain ⟨a', cap', e, hx⟩ := h.at
  simp only [Value.slice.injEq] at e
  exact e.2.1
end

/-- only blocks of S may have changed -/
structure Chg (S : Nat → Prop) (w w' : World) : Prop where
  os : w'.os = w.os
  tape : w'.tape = w.tape
  output : w'.output = w.output
  size : w'.heap.size = w.heap.size
  block : ∀ k, ¬ S k → w'.heap[k]? = w.heap[k]?
theorem Chg.refl (S : Nat → Prop) (w : World) : Chg S w w := ⟨rfl, rfl, rfl, rfl, fun _ _ => rfl⟩
theorem Chg.trans {S : Nat → Prop} {a b c : World} (h : Chg S a b) (k : Chg S b c) : Chg S a c :=
  ⟨k.os.trans h.os, k.tape.trans h.tape, k.output.trans h.output, k.size.trans h.size, fun i hi => (k.block i hi).trans (h.block i hi)⟩
theorem Chg.mono {S T : Nat → Prop} {a b : World} (h : Chg S a b) (hs : ∀ k, S k → T k) : Chg T a b := { h with block := fun k hk => h.block k fun e => hk (hs k e) }
theorem Chg.set (w : World) (a : Addr) (v : Value) : Chg (fun k => k = a.block) w (w.setCell a v) :=
  ⟨rfl, rfl, rfl, by simp, fun k hk => Below.heap_setCell _ _ _ _ hk⟩
theorem Chg.qt {S : Nat → Prop} {a b c : World} (h : Chg S a b) (k : Qt b c) : Chg S a c := by obtain ⟨n, rfl⟩ := k; exact ⟨h.os, h.tape, h.output, h.size, h.block⟩
theorem Qt.chg {S : Nat → Prop} {a b : World} (h : Qt a b) : Chg S a b := (Chg.refl S a).qt h
/-- a change in blocks that are newer than w -/
theorem Ext.chg {S : Nat → Prop} {w a b : World} (h : Ext w a) (k : Chg S a b) (hs : ∀ i, S i → w.heap.size ≤ i) : Ext w b :=
  ⟨k.os.trans (Below.os h), k.tape.trans (Below.tape h), k.output.trans (Below.output h), by rw [k.size]; exact h.size, fun i hi => (k.block i fun e => by have := hs i e; omega).trans (Below.block h i hi)⟩
theorem OwnI.chg {S : Nat → Prop} {w w' : World} {B : Nat} {v : Value} {xs : List Int} (h : OwnI w B v xs) (c : Chg S w w') (hs : ∀ k, v.ownBlock = some k → ¬ S k) : OwnI w' B v xs :=
  h.agree fun k hk => c.block k (hs k hk)
theorem OwnM.chg {S : Nat → Prop} {w w' : World} {B : Nat} {v : Value} {m : List (List Int)} (h : OwnM w B v m) (c : Chg S w w') (hs : ∀ k, S k → k < B ∨ w.heap.size ≤ k) : OwnM w' B v m :=
  h.agree fun k h1 h2 => c.block k fun e => by rcases hs k e with h | h <;> omega

/-- row i has been written anew, in its place -/
theorem Mat.upd {w w' : World} {B g cap : Nat} {A : Nat → Option Addr} {C : Nat → Nat} {m : List (List Int)} {S : Nat → Prop} (h : Mat w B g cap A C m) {i : Nat} (hi : i < m.length) {ys : List Int} (hl : ys.length = (row m i).length)
    (ho : OwnI w' B (.slice (A i) (row m i).length (C i)) ys) (c : Chg S w w') (hS : ∀ k, S k → ∃ o, A i = some ⟨k, o, none⟩) : Mat w' B g cap A C (m.set i ys) := by
  have hlen : ∀ k, (row (m.set i ys) k).length = (row m k).length := fun k => by
    rw [row_set _ _ _ _ hi]; split
    · rename_i e; subst e; exact hl
    · rfl
  refine ⟨?_, h.hB, by simpa using h.le, h.mx, fun k hk => ?_, fun k r' o hk => h.ne k r' o (by simpa using hk), fun k k' r' o o' hk hk' => h.dj k k' r' o o' (by simpa using hk) (by simpa using hk')⟩
  · obtain ⟨c0, h1, h2, h3⟩ := h.hdr
    refine ⟨c0, ?_, h2, fun k hk => by rw [hlen]; exact h3 k (by simpa using hk)⟩
    rw [c.block g fun e => by obtain ⟨o, e⟩ := hS g e; exact h.ne i g o hi e rfl]; exact h1
  · have hk' : k < m.length := by simpa using hk
    rw [hlen, row_set _ _ _ _ hi]
    by_cases e : k = i
    · subst e; rw [if_pos rfl]; exact ho
    · rw [if_neg e]
      refine (h.own k hk').chg c fun b hb hs => ?_
      obtain ⟨o, ho'⟩ := hS b hs
      rcases (h.own k hk').form with ⟨h1, _⟩ | ⟨r', cap', h1, _⟩
      · rw [h1] at hb; simp [Value.ownBlock] at hb
      · rw [h1] at hb
        simp only [Value.ownBlock, Option.some.injEq] at hb
        simp only [Value.slice.injEq] at h1
        rw [hb] at h1
        exact h.dj k i b 0 o hk' hi e h1.1 ho'

/-- a call that hands back a new slice of integers, or of such slices -/
def GivesI (w : World) (xs : List Int) (e : Ending) (w' : World) : Prop := ∃ a cap, e = .returned (.slice a xs.length cap) ∧ OwnI w' w.heap.size (.slice a xs.length cap) xs ∧ Ext w w'
def GivesM (w : World) (m : List (List Int)) (e : Ending) (w' : World) : Prop := ∃ a cap, e = .returned (.slice a m.length cap) ∧ OwnM w' w.heap.size (.slice a m.length cap) m ∧ Ext w w'
/-- .. beside a code -/
def GivesI2 (w : World) (xs : List Int) (k : Int) (e : Ending) (w' : World) : Prop := ∃ a cap, e = .returned (.tuple #[.slice a xs.length cap, .int .i64 k]) ∧ OwnI w' w.heap.size (.slice a xs.length cap) xs ∧ Ext w w'
def GivesM2 (w : World) (m : List (List Int)) (k : Int) (e : Ending) (w' : World) : Prop := ∃ a cap, e = .returned (.tuple #[.slice a m.length cap, .int .i64 k]) ∧ OwnM w' w.heap.size (.slice a m.length cap) m ∧ Ext w w'

end Go.Proofs.Ytljchmkoafahgaa
