/- Slices of slices of Booleans that the call itself has made: my words for integers, turned to Booleans by a program. -/
import Derived.Test.YtokhkpbebimohaaGN
namespace Go.Proofs.Ytokhkpbebimohaa.BB
set_option linter.unusedVariables false
set_option linter.unusedSimpArgs false
open Go.RowKit
theorem info_b : (Try.prog.info? 4).map (fun i => (i.zero, i.size, i.bytes)) = some (some (.bool false), 1, 1) := by kernel_rfl
theorem info_lb : (Try.prog.info? 75).map (fun i => (i.zero, i.size, i.bytes)) = some (some (.slice none 0 0), 1, 24) := by kernel_rfl

/-- element i of a list of integers, row i of a list of lists -/
def nth (xs : List Bool) (i : Nat) : Bool := xs.getD i false
def row (m : List (List Bool)) (i : Nat) : List Bool := m.getD i []
def ent (m : List (List Bool)) (i j : Nat) : Bool := nth (row m i) j

/-- the cells of a slice of integers that is read -/
def IntsAt (w : World) (a : Option Addr) (xs : List Bool) : Prop :=
  xs.length ≤ 9223372036854775807 ∧ (xs ≠ [] → ∃ b o, a = some ⟨b, o, none⟩ ∧ ∀ i, i < xs.length → w.cell? ⟨b, o + i, none⟩ = some (.bool (nth xs i)))

theorem IntsAt.at {w : World} {a : Option Addr} {xs : List Bool} (h : IntsAt w a xs) {i : Nat} (hi : i < xs.length) :
    ∃ b o, a = some ⟨b, o, none⟩ ∧ ∀ i, i < xs.length → w.cell? ⟨b, o + i, none⟩ = some (.bool (nth xs i)) := by
  refine h.2 ?_; rintro rfl; simp at hi
theorem IntsAt.len {w : World} {a : Option Addr} {xs : List Bool} (h : IntsAt w a xs) : xs.length ≤ 9223372036854775807 := h.1
theorem IntsAt.nil (w : World) (a : Option Addr) : IntsAt w a [] := ⟨by simp, fun h => absurd rfl h⟩
theorem IntsAt.mono {w w' : World} {a : Option Addr} {xs : List Bool} (h : IntsAt w a xs) (e : Ext w w') : IntsAt w' a xs :=
  ⟨h.1, fun hn => by obtain ⟨b, o, ha, hc⟩ := h.2 hn; exact ⟨b, o, ha, fun i hi => e.cell (hc i hi)⟩⟩
theorem IntsAt.qt {w w' : World} {a : Option Addr} {xs : List Bool} (h : IntsAt w a xs) (e : Qt w w') : IntsAt w' a xs := h.mono e.ext

/-- a slice of slices of integers that is read -/
def MatAt (w : World) (a : Option Addr) (m : List (List Bool)) : Prop :=
  m.length ≤ 9223372036854775807 ∧ (m ≠ [] → ∃ b o, a = some ⟨b, o, none⟩ ∧ ∀ i, i < m.length → ∃ ai ci, w.cell? ⟨b, o + i, none⟩ = some (.slice ai (row m i).length ci) ∧ IntsAt w ai (row m i) ∧ (ai = none → ci = 0))

theorem MatAt.at {w : World} {a : Option Addr} {m : List (List Bool)} (h : MatAt w a m) {i : Nat} (hi : i < m.length) :
    ∃ b o, a = some ⟨b, o, none⟩ ∧ ∀ i, i < m.length → ∃ ai ci, w.cell? ⟨b, o + i, none⟩ = some (.slice ai (row m i).length ci) ∧ IntsAt w ai (row m i) ∧ (ai = none → ci = 0) := by
  refine h.2 ?_; rintro rfl; simp at hi
theorem MatAt.len {w : World} {a : Option Addr} {m : List (List Bool)} (h : MatAt w a m) : m.length ≤ 9223372036854775807 := h.1
theorem MatAt.nil (w : World) (a : Option Addr) : MatAt w a [] := ⟨by simp, fun h => absurd rfl h⟩
theorem MatAt.mono {w w' : World} {a : Option Addr} {m : List (List Bool)} (h : MatAt w a m) (e : Ext w w') : MatAt w' a m :=
  ⟨h.1, fun hn => by
    obtain ⟨b, o, ha, hc⟩ := h.2 hn
    exact ⟨b, o, ha, fun i hi => by obtain ⟨ai, ci, h1, h2, h3⟩ := hc i hi; exact ⟨ai, ci, e.cell h1, h2.mono e, h3⟩⟩⟩
theorem MatAt.qt {w w' : World} {a : Option Addr} {m : List (List Bool)} (h : MatAt w a m) (e : Qt w w') : MatAt w' a m := h.mono e.ext

theorem nth_of_lt {xs : List Bool} {i : Nat} (h : i < xs.length) : nth xs i = xs[i] := by simp [nth, h]
theorem list_ext_nth {xs ys : List Bool} (hl : xs.length = ys.length) (h : ∀ i, i < xs.length → nth xs i = nth ys i) : xs = ys := by
  apply List.ext_getElem hl
  intro i h1 h2
  have := h i h1
  rwa [nth_of_lt h1, nth_of_lt h2] at this
theorem row_of_lt {m : List (List Bool)} {i : Nat} (h : i < m.length) : row m i = m[i] := by simp [row, h]
theorem list_ext_row {xs ys : List (List Bool)} (hl : xs.length = ys.length) (h : ∀ i, i < xs.length → row xs i = row ys i) : xs = ys := by
  apply List.ext_getElem hl
  intro i h1 h2
  have := h i h1
  rwa [row_of_lt h1, row_of_lt h2] at this


/-- v is a slice of new memory (from block B on) that holds the integers xs -/
def OwnI (w : World) (B : Nat) (v : Value) (xs : List Bool) : Prop := w.ownsRow B 4 1 v xs.length (xs.map Value.bool)

theorem OwnI.nil (w : World) (B : Nat) : OwnI w B (.slice none 0 0) [] := World.ownsRow_nil w B 4 1
theorem OwnI.mono {w : World} {B B' : Nat} {v : Value} {xs : List Bool} (h : OwnI w B v xs) (hb : B' ≤ B) : OwnI w B' v xs := by
  refine ⟨h.1, ?_⟩
  rcases h.2 with h2 | ⟨g, cap, cur, h1, h2, h3⟩
  · exact .inl h2
  · exact .inr ⟨g, cap, cur, h1, by omega, h3⟩
theorem OwnI.agree {w w' : World} {B : Nat} {v : Value} {xs : List Bool} (h : OwnI w B v xs) (e : ∀ k, v.ownBlock = some k → w'.heap[k]? = w.heap[k]?) : OwnI w' B v xs := by
  refine ⟨h.1, ?_⟩
  rcases h.2 with h2 | ⟨g, cap, cur, h1, h2, h3, h4⟩
  · exact .inl h2
  · exact .inr ⟨g, cap, cur, h1, h2, by rw [e g (by rw [h1]; rfl)]; exact h3, h4⟩
theorem OwnI.lt {w : World} {B : Nat} {v : Value} {xs : List Bool} (h : OwnI w B v xs) {k : Nat} (hk : v.ownBlock = some k) : B ≤ k ∧ k < w.heap.size := World.ownsRow.lt h k hk
theorem OwnI.ext {w w' : World} {B : Nat} {v : Value} {xs : List Bool} (h : OwnI w B v xs) (e : Ext w w') : OwnI w' B v xs :=
  h.agree fun k hk => Below.block e k (h.lt hk).2

/-- the form of such a slice -/
theorem OwnI.form {w : World} {B : Nat} {v : Value} {xs : List Bool} (h : OwnI w B v xs) :
    (v = .slice none 0 0 ∧ xs = []) ∨ ∃ g cap, v = .slice (some ⟨g, 0, none⟩) xs.length cap ∧ B ≤ g ∧ g < w.heap.size ∧ xs.length ≤ cap ∧ cap ≤ 9223372036854775807 ∧
      (∀ j, j < xs.length → w.cell? ⟨g, j, none⟩ = some (.bool (nth xs j))) ∧ (∀ j, w.frozen? ⟨g, j, none⟩ = false) := by
  rcases h.2 with ⟨h1, h2⟩ | ⟨g, cap, cur, h1, h2, h3, h4, h5, _⟩
  · exact .inl ⟨h1, List.eq_nil_of_length_eq_zero h2⟩
  · subst h1
    refine .inr ⟨g, cap, rfl, h2, (Array.getElem?_eq_some_iff.1 h3).1, h4, h5, fun j hj => ?_, fun j => World.ownsRow.frozenAt h j⟩
    rw [World.ownsRow.cellAt h j (by omega)]
    simp [nth, hj]
theorem OwnI.at {w : World} {B : Nat} {v : Value} {xs : List Bool} (h : OwnI w B v xs) : ∃ a cap, v = .slice a xs.length cap ∧ IntsAt w a xs := by
  rcases h.form with ⟨rfl, rfl⟩ | ⟨g, cap, rfl, _, _, h1, h2, hc, _⟩
  · exact ⟨none, 0, rfl, IntsAt.nil _ _⟩
  · exact ⟨_, cap, rfl, by omega, fun _ => ⟨g, 0, rfl, fun i hi => by simpa using hc i hi⟩⟩
theorem OwnI.ints {w : World} {B : Nat} {a : Option Addr} {n cap : Nat} {xs : List Bool} (h : OwnI w B (.slice a n cap) xs) : IntsAt w a xs := by
  obtain ⟨a', cap', e, hx⟩ := h.at
  simp only [Value.slice.injEq] at e
  obtain ⟨rfl, _, _⟩ := e
  exact hx
theorem OwnI.nocap {w : World} {B : Nat} {a : Option Addr} {n cap : Nat} {xs : List Bool} (h : OwnI w B (.slice a n cap) xs) : a = none → cap = 0 := by
  intro e
  subst e
  rcases h.form with ⟨h1, _⟩ | ⟨g, cap', h1, _⟩
  · simp only [Value.slice.injEq] at h1; exact h1.2.2
  · simp at h1
theorem OwnI.len {w : World} {B : Nat} {a : Option Addr} {n cap : Nat} {xs : List Bool} (h : OwnI w B (.slice a n cap) xs) : n = xs.length := by
  obtain ⟨a', cap', e, hx⟩ := h.at
  simp only [Value.slice.injEq] at e
  exact e.2.1
/-- what make has laid and a loop has filled -/
theorem OwnI.of_row {w : World} {B g n : Nat} {xs : List Bool} (h : w.rowIs g 4 n (fun j => .bool (nth xs j))) (hn : xs.length = n) (hB : B ≤ g) (hm : n ≤ 9223372036854775807) :
    OwnI w B (.slice (some ⟨g, 0, none⟩) n n) xs := by
  obtain ⟨c, hb, hs, hc⟩ := h
  subst hn
  refine ⟨by simp, .inr ⟨g, xs.length, c, rfl, hB, hb, Nat.le_refl _, hm, by omega, ?_⟩⟩
  rw [List.take_of_length_le (by simp; omega)]
  apply List.ext_getElem
  · simp; omega
  · intro i h1 h2
    have h3 : i < xs.length := by simpa using h2
    have := hc i h3
    simp only [Array.getElem_toList, List.getElem_map]
    rw [Array.getElem?_eq_getElem (by omega)] at this
    simp only [Option.some.injEq] at this
    rw [this, nth_of_lt h3]
theorem OwnI.row {w : World} {B g cap : Nat} {xs : List Bool} (h : OwnI w B (.slice (some ⟨g, 0, none⟩) xs.length cap) xs) :
    ∃ c : Array Value, w.heap[g]? = some (.cells c 4 (0, 0)) ∧ c.size = cap ∧ xs.length ≤ cap ∧ cap ≤ 9223372036854775807 ∧ ∀ j, j < xs.length → c[j]? = some (.bool (nth xs j)) := by
  rcases h.2 with ⟨h1, _⟩ | ⟨g', cap', cur, h1, h2, h3, h4, h5, h6, h7⟩
  · simp at h1
  · simp only [Value.slice.injEq, Option.some.injEq, Addr.mk.injEq, and_true, true_and] at h1
    obtain ⟨rfl, rfl⟩ := h1
    refine ⟨cur, h3, by omega, h4, h5, fun j hj => ?_⟩
    have : (cur.toList.take (xs.length * 1))[j]? = (xs.map Value.bool)[j]? := by rw [h7]
    rw [List.getElem?_take, if_pos (by omega)] at this
    rw [← Array.getElem?_toList, this]
    simp [nth, hj]
/-- a store into such a slice -/
theorem OwnI.set {w : World} {B g cap : Nat} {xs : List Bool} (h : OwnI w B (.slice (some ⟨g, 0, none⟩) xs.length cap) xs) (j : Nat) (x : Bool) :
    OwnI (w.setCell ⟨g, j, none⟩ (.bool x)) B (.slice (some ⟨g, 0, none⟩) xs.length cap) (xs.set j x) := by
  have := (World.ownsRow.stored h j (.bool x)).1
  unfold OwnI
  rw [List.map_set, List.length_set]
  exact this

theorem nth_replicate (n : Nat) (x : Bool) {j : Nat} (h : j < n) : nth (List.replicate n x) j = x := by simp [nth, h]
/-- what make has laid -/
theorem OwnI.made (w : World) (B n : Nat) (hB : B ≤ w.heap.size) (hn : n ≤ 9223372036854775807) :
    OwnI (w.alloc (.cells (madeCells #[.bool false] n) 4)) B (.slice (some ⟨w.heap.size, 0, none⟩) (List.replicate n false).length n) (List.replicate n false) := by
  have := OwnI.of_row (xs := List.replicate n false) ((World.rowIs_made w (.bool false) n 4).congr fun j hj => by rw [nth_replicate n false hj]) (by simp) hB hn
  rw [List.length_replicate]; exact this

/-- such a slice, not empty, opened -/
theorem OwnI.open {w : World} {B n cap : Nat} {a : Option Addr} {xs : List Bool} (h : OwnI w B (.slice a n cap) xs) (hn : 0 < n) :
    ∃ g, a = some ⟨g, 0, none⟩ ∧ B ≤ g ∧ g < w.heap.size ∧ (∀ j, j < n → w.cell? ⟨g, j, none⟩ = some (.bool (nth xs j))) ∧ (∀ j, w.frozen? ⟨g, j, none⟩ = false) := by
  have hl := h.len
  subst hl
  rcases h.form with ⟨h1, h2⟩ | ⟨g, cap', h1, h2, h3, _, _, h4, h5⟩
  · rw [h2] at hn; simp at hn
  · simp only [Value.slice.injEq] at h1
    exact ⟨g, h1.1, h2, h3, h4, h5⟩

/-- a slice of new slices of integers: its own row is block g -/
structure Mat (w : World) (B g cap : Nat) (A : Nat → Option Addr) (C : Nat → Nat) (m : List (List Bool)) : Prop where
  hdr : ∃ c : Array Value, w.heap[g]? = some (.cells c 75 (0, 0)) ∧ c.size = cap ∧ ∀ i, i < m.length → c[i]? = some (.slice (A i) (row m i).length (C i))
  hB : B ≤ g
  le : m.length ≤ cap
  mx : cap ≤ 9223372036854775807
  own : ∀ i, i < m.length → OwnI w B (.slice (A i) (row m i).length (C i)) (row m i)
  ne : ∀ i r o, i < m.length → A i = some ⟨r, o, none⟩ → r ≠ g
  dj : ∀ i j r o o', i < m.length → j < m.length → i ≠ j → A i = some ⟨r, o, none⟩ → A j ≠ some ⟨r, o', none⟩

/-- v is a slice of new memory that holds the lists m, no two of them in one place -/
def OwnM (w : World) (B : Nat) (v : Value) (m : List (List Bool)) : Prop :=
  (v = .slice none 0 0 ∧ m = []) ∨ ∃ g cap A C, v = .slice (some ⟨g, 0, none⟩) m.length cap ∧ Mat w B g cap A C m

section
variable {w w' : World} {B g cap : Nat} {A : Nat → Option Addr} {C : Nat → Nat} {m : List (List Bool)}

theorem Mat.cell (h : Mat w B g cap A C m) {i : Nat} (hi : i < m.length) : w.cell? ⟨g, i, none⟩ = some (.slice (A i) (row m i).length (C i)) := by
  obtain ⟨c, h1, _, h3⟩ := h.hdr
  simp [World.cell?, h1, h3 i hi]
theorem Mat.frozen (h : Mat w B g cap A C m) (i : Nat) : w.frozen? ⟨g, i, none⟩ = false := by
  obtain ⟨c, h1, _, h3⟩ := h.hdr
  simp [World.frozen?, h1]
theorem Mat.lt (h : Mat w B g cap A C m) : g < w.heap.size := by
  obtain ⟨c, h1, _, h3⟩ := h.hdr
  exact (Array.getElem?_eq_some_iff.1 h1).1
/-- where row i lies -/
theorem Mat.addr (h : Mat w B g cap A C m) {i : Nat} (hi : i < m.length) (h0 : 0 < (row m i).length) :
    ∃ r, A i = some ⟨r, 0, none⟩ ∧ B ≤ r ∧ r < w.heap.size ∧ (∀ j, j < (row m i).length → w.cell? ⟨r, j, none⟩ = some (.bool (ent m i j))) ∧ (∀ j, w.frozen? ⟨r, j, none⟩ = false) := by
  rcases (h.own i hi).form with ⟨h1, h2⟩ | ⟨r, cap', h1, h2, h3, _, _, h4, h5⟩
  · rw [h2] at h0; simp at h0
  · simp only [Value.slice.injEq] at h1
    exact ⟨r, h1.1, h2, h3, h4, h5⟩
theorem Mat.mono {B' : Nat} (h : Mat w B g cap A C m) (hb : B' ≤ B) : Mat w B' g cap A C m :=
  { h with hB := Nat.le_trans hb h.hB, own := fun i hi => (h.own i hi).mono hb }
theorem Mat.agree (h : Mat w B g cap A C m) (e : ∀ k, B ≤ k → k < w.heap.size → w'.heap[k]? = w.heap[k]?) : Mat w' B g cap A C m :=
  { h with
    hdr := by rw [e g h.hB h.lt]; exact h.hdr
    own := fun i hi => (h.own i hi).agree fun k hk => e k ((h.own i hi).lt hk).1 ((h.own i hi).lt hk).2 }
theorem Mat.ext (h : Mat w B g cap A C m) (e : Ext w w') : Mat w' B g cap A C m := h.agree fun k _ hk => Below.block e k hk

theorem row_set (m : List (List Bool)) (i j : Nat) (xs : List Bool) (hi : i < m.length) : row (m.set i xs) j = if j = i then xs else row m j := by
  unfold row
  by_cases h : j = i
  · subst h; simp [hi]
  · rw [if_neg h]; simp [List.getD_eq_getElem?_getD, Ne.symm h]

/-- a store into row i -/
theorem Mat.set (h : Mat w B g cap A C m) {i : Nat} (hi : i < m.length) {r : Nat} (hr : A i = some ⟨r, 0, none⟩) (j : Nat) (x : Bool) :
    Mat (w.setCell ⟨r, j, none⟩ (.bool x)) B g cap A C (m.set i ((row m i).set j x)) := by
  have hrg : r ≠ g := h.ne i r 0 hi hr
  have hl : ∀ k, (row (m.set i ((row m i).set j x)) k).length = (row m k).length := fun k => by
    rw [row_set _ _ _ _ hi]; split
    · rename_i e; subst e; simp
    · rfl
  refine ⟨?_, h.hB, by simpa using h.le, h.mx, fun k hk => ?_, fun k r' o hk => h.ne k r' o (by simpa using hk), fun k k' r' o o' hk hk' => h.dj k k' r' o o' (by simpa using hk) (by simpa using hk')⟩
  · obtain ⟨c, h1, h2, h3⟩ := h.hdr
    refine ⟨c, ?_, h2, fun k hk => by rw [hl]; exact h3 k (by simpa using hk)⟩
    rw [Below.heap_setCell _ _ _ _ (fun e => hrg e.symm)]; exact h1
  · have hk' : k < m.length := by simpa using hk
    rw [hl, row_set _ _ _ _ hi]
    by_cases e : k = i
    · subst e
      rw [if_pos rfl, hr]
      have ho := h.own k hk'
      rw [hr] at ho
      exact ho.set j x
    · rw [if_neg e]
      refine (h.own k hk').agree fun b hb => Below.heap_setCell _ _ _ _ ?_
      intro eb
      cases ha : A k with
      | none => rw [ha] at hb; simp [Value.ownBlock] at hb
      | some a =>
        rcases (h.own k hk').form with ⟨h1, _⟩ | ⟨r', cap', h1, _⟩
        · rw [ha] at h1; simp at h1
        · simp only [Value.slice.injEq] at h1
          rw [h1.1] at hb
          simp only [Value.ownBlock, Option.some.injEq] at hb
          refine h.dj k i r' 0 0 hk' hi e h1.1 ?_
          rw [hr, hb, eb]

/-- a new row is laid at place i of the matrix -/
theorem Mat.setRow (h : Mat w B g cap A C m) {i : Nat} (hi : i < m.length) {a : Option Addr} {c : Nat} {xs : List Bool} {S : Nat} (hS : S ≤ w.heap.size) (hg : g < S)
    (hA : ∀ k r o, k < m.length → A k = some ⟨r, o, none⟩ → r < S) (ho : OwnI w S (.slice a xs.length c) xs) (hBS : B ≤ S) :
    Mat (w.setCell ⟨g, i, none⟩ (.slice a xs.length c)) B g cap (fun k => if k = i then a else A k) (fun k => if k = i then c else C k) (m.set i xs) := by
  have hal : ∀ r o, a = some ⟨r, o, none⟩ → S ≤ r := fun r o e => by
    subst e; exact (ho.lt (k := r) rfl).1
  have hcur : ∀ (v : Value) (ys : List Bool), OwnI w B v ys → (∀ k, v.ownBlock = some k → k ≠ g) → OwnI (w.setCell ⟨g, i, none⟩ (.slice a xs.length c)) B v ys := fun v ys hv hne =>
    hv.agree fun k hk => Below.heap_setCell _ _ _ _ (hne k hk)
  refine ⟨?_, h.hB, by simpa using h.le, h.mx, fun k hk => ?_, fun k r o hk => ?_, fun k k' r o o' hk hk' hne => ?_⟩
  · obtain ⟨c0, h1, h2, h3⟩ := h.hdr
    refine ⟨c0.setIfInBounds i (.slice a xs.length c), by simp [World.setCell, Array.getElem?_modify, h1], by simpa using h2, fun k hk => ?_⟩
    have hk' : k < m.length := by simpa using hk
    have hic : i < c0.size := by rw [h2]; exact Nat.lt_of_lt_of_le hi h.le
    rw [Array.getElem?_setIfInBounds, row_set _ _ _ _ hi]
    by_cases e : k = i
    · subst e; simp [hic]
    · simp only [if_neg e, if_neg (Ne.symm e)]; exact h3 k hk'
  · have hk' : k < m.length := by simpa using hk
    rw [row_set _ _ _ _ hi]
    by_cases e : k = i
    · subst e
      simp only [if_pos]
      exact hcur _ _ (ho.mono hBS) fun b hb => by have := (ho.lt hb).1; omega
    · simp only [if_neg e]
      refine hcur _ _ (h.own k hk') fun b hb => ?_
      rcases (h.own k hk').form with ⟨h1, _⟩ | ⟨r', cap', h1, _⟩
      · rw [h1] at hb; simp [Value.ownBlock] at hb
      · rw [h1] at hb
        simp only [Value.ownBlock, Option.some.injEq] at hb
        simp only [Value.slice.injEq] at h1
        rw [← hb]; exact h.ne k r' 0 hk' h1.1
  · have hk' : k < m.length := by simpa using hk
    by_cases e : k = i
    · subst e; simp only [if_pos]; intro e; have := hal r o e; omega
    · simp only [if_neg e]; exact h.ne k r o hk'
  · have h1' : k < m.length := by simpa using hk
    have h2' : k' < m.length := by simpa using hk'
    by_cases e : k = i
    · subst e
      have e' : k' ≠ k := Ne.symm hne
      simp only [if_pos, if_neg e']
      intro ea eb
      have := hal r o ea; have := hA k' r o' h2' eb; omega
    · by_cases e' : k' = i
      · subst e'
        simp only [if_pos, if_neg e]
        intro ea eb
        have := hal r o' eb; have := hA k r o h1' ea; omega
      · simp only [if_neg e, if_neg e']
        exact h.dj k k' r o o' h1' h2' hne

/-- what make has laid: a row of nil slices -/
theorem Mat.made (w : World) (n : Nat) (hB : B ≤ w.heap.size) (hn : n ≤ 9223372036854775807) :
    Mat (w.alloc (.cells (madeCells #[.slice none 0 0] n) 75)) B w.heap.size n (fun _ => none) (fun _ => 0) (List.replicate n []) := by
  obtain ⟨c, h1, h2, h3⟩ := World.rowIs_made w (.slice none 0 0) n 75
  have hr : ∀ i, row (List.replicate n []) i = [] := fun i => by
    unfold row; simp [List.getD_eq_getElem?_getD, List.getElem?_replicate]; split <;> rfl
  refine ⟨⟨c, h1, h2, fun i hi => by rw [hr]; exact h3 i (by simpa using hi)⟩, hB, by simp, hn, fun i hi => by rw [hr]; exact OwnI.nil _ _, fun _ _ _ _ e => by simp at e, fun _ _ _ _ _ _ _ _ e => by simp at e⟩

theorem Mat.at (h : Mat w B g cap A C m) : MatAt w (some ⟨g, 0, none⟩) m :=
  ⟨by have := h.le; have := h.mx; omega, fun _ => ⟨g, 0, rfl, fun i hi => ⟨A i, C i, by rw [Nat.zero_add]; exact h.cell hi, (h.own i hi).ints, (h.own i hi).nocap⟩⟩⟩
end

section
variable {w w' : World} {B : Nat} {v : Value} {m : List (List Bool)}
theorem OwnM.nil (w : World) (B : Nat) : OwnM w B (.slice none 0 0) [] := .inl ⟨rfl, rfl⟩
theorem OwnM.mono {B' : Nat} (h : OwnM w B v m) (hb : B' ≤ B) : OwnM w B' v m := by
  rcases h with h | ⟨g, cap, A, C, h1, h2⟩
  · exact .inl h
  · exact .inr ⟨g, cap, A, C, h1, h2.mono hb⟩
theorem OwnM.agree (h : OwnM w B v m) (e : ∀ k, B ≤ k → k < w.heap.size → w'.heap[k]? = w.heap[k]?) : OwnM w' B v m := by
  rcases h with h | ⟨g, cap, A, C, h1, h2⟩
  · exact .inl h
  · exact .inr ⟨g, cap, A, C, h1, h2.agree e⟩
theorem OwnM.ext (h : OwnM w B v m) (e : Ext w w') : OwnM w' B v m := h.agree fun k _ hk => Below.block e k hk
theorem OwnM.at (h : OwnM w B v m) : ∃ a cap, v = .slice a m.length cap ∧ MatAt w a m := by
  rcases h with ⟨rfl, rfl⟩ | ⟨g, cap, A, C, rfl, h2⟩
  · exact ⟨none, 0, rfl, MatAt.nil _ _⟩
  · exact ⟨_, cap, rfl, h2.at⟩
theorem OwnM.mat {a : Option Addr} {n cap : Nat} (h : OwnM w B (.slice a n cap) m) : MatAt w a m := by
  obtain ⟨a', cap', e, hx⟩ := h.at
  simp only [Value.slice.injEq] at e
  obtain ⟨rfl, _, _⟩ := e
  exact hx
theorem OwnM.len {a : Option Addr} {n cap : Nat} (h : OwnM w B (.slice a n cap) m) : n = m.length := by
  obtain ⟨a', cap', e, hx⟩ := h.at
  simp only [Value.slice.injEq] at e
  exact e.2.1
end


/-- the header of a slice of slices -/
theorem OwnM.hdr {w : World} {B : Nat} {v : Value} {m : List (List Bool)} (h : OwnM w B v m) :
    ∃ (A : Nat → Option Addr) (C : Nat → Nat), w.ownsRow B 75 1 v m.length ((List.range m.length).map fun i => .slice (A i) (row m i).length (C i)) ∧
      (∀ i, i < m.length → OwnI w B (.slice (A i) (row m i).length (C i)) (row m i)) ∧ (∀ i j r o o', i < m.length → j < m.length → i ≠ j → A i = some ⟨r, o, none⟩ → A j ≠ some ⟨r, o', none⟩) ∧
      (∀ i r o, i < m.length → A i = some ⟨r, o, none⟩ → v.ownBlock ≠ some r) := by
  rcases h with ⟨rfl, rfl⟩ | ⟨g, cap, A, C, rfl, hM⟩
  · exact ⟨fun _ => none, fun _ => 0, World.ownsRow_nil _ _ _ _, fun i hi => absurd hi (Nat.not_lt_zero _), fun i j r o o' hi => absurd hi (Nat.not_lt_zero _), fun i r o hi => absurd hi (Nat.not_lt_zero _)⟩
  · obtain ⟨c, h1, h2, h3⟩ := hM.hdr
    refine ⟨A, C, ⟨by simp, .inr ⟨g, cap, c, rfl, hM.hB, h1, hM.le, hM.mx, by omega, ?_⟩⟩, hM.own, hM.dj, fun i r o hi ha e => ?_⟩
    · apply List.ext_getElem?
      intro i
      by_cases hi : i < m.length
      · rw [List.getElem?_take, if_pos (by omega), Array.getElem?_toList, h3 i hi]
        simp [hi]
      · rw [List.getElem?_eq_none (by simp; omega), List.getElem?_eq_none (by simp; omega)]
    · simp only [Value.ownBlock, Option.some.injEq] at e
      exact hM.ne i r o hi ha e.symm
theorem OwnM.of_hdr {w : World} {B : Nat} {v : Value} {m : List (List Bool)} {A : Nat → Option Addr} {C : Nat → Nat}
    (h : w.ownsRow B 75 1 v m.length ((List.range m.length).map fun i => .slice (A i) (row m i).length (C i)))
    (own : ∀ i, i < m.length → OwnI w B (.slice (A i) (row m i).length (C i)) (row m i)) (dj : ∀ i j r o o', i < m.length → j < m.length → i ≠ j → A i = some ⟨r, o, none⟩ → A j ≠ some ⟨r, o', none⟩) : OwnM w B v m := by
  rcases h.2 with ⟨rfl, h2⟩ | ⟨g, cap, cur, rfl, h2, h3, h4, h5, h6, h7⟩
  · exact .inl ⟨rfl, List.eq_nil_of_length_eq_zero h2⟩
  · refine .inr ⟨g, cap, A, C, rfl, ⟨cur, h3, by omega, fun i hi => ?_⟩, h2, h4, h5, own, fun i r o hi ha e => ?_, dj⟩
    · have e : (cur.toList.take (m.length * 1))[i]? = ((List.range m.length).map fun i => Value.slice (A i) (row m i).length (C i))[i]? := by rw [h7]
      rw [List.getElem?_take, if_pos (by omega)] at e
      rw [← Array.getElem?_toList, e]
      simp [hi]
    · have ho := own i hi
      rw [ha] at ho
      rcases ho.2 with ⟨h1, _⟩ | ⟨g', cap', cur', h1, _, h8, _⟩
      · simp at h1
      · simp only [Value.slice.injEq, Option.some.injEq, Addr.mk.injEq, and_true, true_and] at h1
        rw [← h1.1.1, e, h3] at h8
        simp at h8

/-- append of one row that is new -/
theorem app_m {ops : Array Oper} {rest : List Oper} {o : Oper} {a : Act} {Q : Exit → Act → World → Prop} {w w1 : World} (hgd : o.guard = none) (s x : Operand)
    (ho : o.op = .call { callee := .builtin .append, args := #[s, x], argTypes := #[76, 76] })
    (B : Nat) (v : Value) (m : List (List Bool)) (hs : a.eval s = v) (hown : OwnM w1 B v m) (he : Ext w1 w) (ad : Addr) (c : Nat) (ar : Option Addr) (cr : Nat) (ys : List Bool) (hx : a.eval x = .slice (some ad) 1 c)
    (hc : w.cell? ad = some (.slice ar ys.length cr)) (hr : OwnI w w1.heap.size (.slice ar ys.length cr) ys)
    (hl : m.length ≤ 1000000000) (hB : B ≤ w1.heap.size)
    (h : ∀ v' w', OwnM w' B v' (m ++ [ys]) → w.grownBy w' v.ownBlock → wpList Try.prog ops Q rest (a.put o.dst v') w') : wpList Try.prog ops Q (o :: rest) a w := by
  obtain ⟨A, C, h1, h2, h3, h4⟩ := (hown.ext he).hdr
  obtain ⟨i0, hi, hz0, hz1, hz2⟩ := info_parts BB.info_lb
  have hlt : ∀ i r o, i < m.length → A i = some ⟨r, o, none⟩ → r < w1.heap.size := by
    intro i r o hi ha
    obtain ⟨A', C', h1', h2', _⟩ := hown.hdr
    have e : ((List.range m.length).map fun i => Value.slice (A i) (row m i).length (C i)) = ((List.range m.length).map fun i => Value.slice (A' i) (row m i).length (C' i)) := by
      have hf := (hown.ext he)
      rcases h1.2 with ⟨_, h0⟩ | ⟨g, cap, cur, ev, _, hg, _, _, _, ht⟩
      · rw [h0] at hi; exact absurd hi (Nat.not_lt_zero _)
      · rcases h1'.2 with ⟨_, h0⟩ | ⟨g', cap', cur', ev', _, hg', _, _, _, ht'⟩
        · rw [h0] at hi; exact absurd hi (Nat.not_lt_zero _)
        · rw [ev] at ev'
          simp only [Value.slice.injEq, Option.some.injEq, Addr.mk.injEq, and_true, true_and] at ev'
          obtain ⟨rfl, rfl⟩ := ev'
          rw [Below.block he g (Array.getElem?_eq_some_iff.1 hg').1, hg'] at hg
          simp only [Option.some.injEq, Obj.cells.injEq, and_true] at hg
          rw [← ht, ← ht', hg]
    have e' := congrArg (fun l => l[i]?) e
    simp only [List.getElem?_map, List.getElem?_range hi, Option.map_some, Option.some.injEq, Value.slice.injEq, true_and] at e'
    have ho := h2' i hi
    rw [← e'.1, ha] at ho
    exact (ho.lt (k := r) rfl).2
  have hnr : ∀ r o, ar = some ⟨r, o, none⟩ → w1.heap.size ≤ r := fun r o e => by subst e; exact (hr.lt (k := r) rfl).1
  have hvlt : ∀ k, v.ownBlock = some k → k < w1.heap.size := by
    intro k hk
    obtain ⟨A', C', h1', _⟩ := hown.hdr
    exact (h1'.lt k hk).2
  refine wpList_append_own w hgd s x 76 ho B 75 i0 (.slice none 0 0) 1 24 Try.underlying76 hi hz0 hz1 hz2 rfl (by decide) v m.length _ hs h1 ad 1 c [.slice ar ys.length cr] hx rfl ?_ ?_ ?_ ?_ (Nat.le_trans hB he.size) ?_
  · intro j u hj
    match j, hj with
    | 0, hj =>
      simp only [List.getElem?_cons_zero, Option.some.injEq] at hj
      subst hj
      have : ad.add 0 = ad := by simp [Addr.add]
      rw [this]; exact hc
  · intro u hu; simp only [List.mem_singleton] at hu; subst hu; rfl
  · have : maxLen = 9223372036854775807 := rfl
    omega
  · omega
  · intro v' w' hw hg _
    refine h v' w' ?_ hg
    have keep : ∀ (u : Value) (zs : List Bool), OwnI w B u zs → (∀ k, u.ownBlock = some k → v.ownBlock ≠ some k) → OwnI w' B u zs := fun u zs hu hne =>
      hu.agree fun k hk => hg.block k (hu.lt hk).2 fun e => hne k hk e.symm
    have hrow : ∀ i, row (m ++ [ys]) i = if i = m.length then ys else row m i := fun i => by
      unfold row
      by_cases e : i = m.length
      · subst e; simp
      · rw [if_neg e]
        by_cases hlt : i < m.length
        · simp [List.getD_eq_getElem?_getD, List.getElem?_append_left hlt]
        · have : m.length < i := by omega
          simp [List.getD_eq_getElem?_getD, List.getElem?_append, hlt, show i - m.length ≠ 0 by omega]
    refine OwnM.of_hdr (A := fun i => if i = m.length then ar else A i) (C := fun i => if i = m.length then cr else C i) ?_ ?_ ?_
    · have e : ((List.range (m ++ [ys]).length).map fun i => Value.slice (if i = m.length then ar else A i) (row (m ++ [ys]) i).length (if i = m.length then cr else C i)) =
          ((List.range m.length).map fun i => .slice (A i) (row m i).length (C i)) ++ [.slice ar ys.length cr] := by
        rw [List.length_append, List.length_singleton, List.range_succ, List.map_append]
        have eA := List.map_congr_left (l := List.range m.length) (f := fun i => Value.slice (if i = m.length then ar else A i) (row (m ++ [ys]) i).length (if i = m.length then cr else C i)) (g := fun i => Value.slice (A i) (row m i).length (C i)) (fun i hi => by
          have : i ≠ m.length := by have := List.mem_range.1 hi; omega
          simp only [hrow, if_neg this])
        rw [eA]
        simp [hrow]
      rw [e, List.length_append]
      exact hw
    · intro i hi
      rw [hrow]
      by_cases e : i = m.length
      · subst e
        simp only [if_pos]
        refine keep _ _ (hr.mono hB) fun k hk e => ?_
        have := hvlt k e
        have := (hr.lt hk).1
        omega
      · simp only [if_neg e]
        have hi' : i < m.length := by simp at hi; omega
        refine keep _ _ (h2 i hi') fun k hk e => ?_
        rcases (h2 i hi').form with ⟨h5, _⟩ | ⟨r, cap, h5, _⟩
        · rw [h5] at hk; simp [Value.ownBlock] at hk
        · rw [h5] at hk
          simp only [Value.ownBlock, Option.some.injEq] at hk
          simp only [Value.slice.injEq] at h5
          rw [← hk] at e
          exact h4 i r 0 hi' h5.1 e
    · intro i j r o o' hi hj hne
      have hi' : i < m.length + 1 := by simpa using hi
      have hj' : j < m.length + 1 := by simpa using hj
      by_cases e : i = m.length
      · have e' : j ≠ m.length := by omega
        simp only [if_pos e, if_neg e']
        intro ea eb
        have := hnr r o ea
        have := hlt j r o' (by omega) eb
        omega
      · by_cases e' : j = m.length
        · simp only [if_neg e, if_pos e']
          intro ea eb
          have := hnr r o' eb
          have := hlt i r o (by omega) ea
          omega
        · simp only [if_neg e, if_neg e']
          exact h3 i j r o o' (by omega) (by omega) hne


theorem OwnI.base {w : World} {B : Nat} {v : Value} {xs : List Bool} (h : OwnI w B v xs) : ∀ k, v.ownBlock = some k → B ≤ k := fun k hk => (h.lt hk).1
theorem OwnM.base {w : World} {B : Nat} {v : Value} {m : List (List Bool)} (h : OwnM w B v m) : ∀ k, v.ownBlock = some k → B ≤ k := fun k hk => by
  obtain ⟨A, C, h1, _⟩ := h.hdr
  exact (h1.lt k hk).1

theorem OwnI.empty (w : World) (B : Nat) (hB : B ≤ w.heap.size) : OwnI (w.alloc (.cells #[] 4)) B (.slice (some ⟨w.heap.size, 0, none⟩) 0 0) [] :=
  World.ownsRow_lit w #[] 0 hB (Nat.zero_le _) rfl
theorem OwnM.empty (w : World) (B : Nat) (hB : B ≤ w.heap.size) : OwnM (w.alloc (.cells #[] 75)) B (.slice (some ⟨w.heap.size, 0, none⟩) 0 0) [] :=
  OwnM.of_hdr (m := []) (A := fun _ => none) (C := fun _ => 0) (World.ownsRow_lit w #[] 0 hB (Nat.zero_le _) rfl) (fun i hi => absurd hi (Nat.not_lt_zero _)) (fun i j r o o' hi => absurd hi (Nat.not_lt_zero _))
/-- append of one integer that a new cell holds: what the walk wants at the place -/

theorem grown_m {w0 wr w' : World} {B : Nat} {v : Value} {m : List (List Bool)} {o : Obj} (hE : Ext w0 wr) (hO : OwnM wr B v m) (hB : w0.heap.size ≤ B) (hg : (wr.alloc o).grownBy w' v.ownBlock) : Ext w0 w' :=
  Below.grown (hE.alloc o) hg (hE.alloc o).size (fun k hk => Nat.le_trans hB (hO.base k hk))

def mkRow (n : Nat) (f : Nat → Bool) : List Bool := (List.range n).map f
def mkMat (m n : Nat) (f : Nat → Nat → Bool) : List (List Bool) := (List.range m).map fun i => mkRow n (f i)
theorem mkRow_len (n : Nat) (f : Nat → Bool) : (mkRow n f).length = n := by simp [mkRow]
theorem mkRow_nth {n j : Nat} {f : Nat → Bool} (h : j < n) : nth (mkRow n f) j = f j := by simp [nth, mkRow, h]
theorem mkMat_len (m n : Nat) (f : Nat → Nat → Bool) : (mkMat m n f).length = m := by simp [mkMat]
theorem mkMat_row {m n i : Nat} {f : Nat → Nat → Bool} (h : i < m) : row (mkMat m n f) i = mkRow n (f i) := by simp [row, mkMat, h]
theorem mkMat_ent {m n i j : Nat} {f : Nat → Nat → Bool} (hi : i < m) (hj : j < n) : ent (mkMat m n f) i j = f i j := by
  unfold ent; rw [mkMat_row hi, mkRow_nth hj]
theorem mkRow_eq {n : Nat} {f : Nat → Bool} {xs : List Bool} (hl : xs.length = n) (h : ∀ j, j < n → nth xs j = f j) : xs = mkRow n f :=
  list_ext_nth (by rw [mkRow_len]; exact hl) fun i hi => by rw [mkRow_nth (by omega)]; exact h i (by omega)
theorem mkMat_eq {m n : Nat} {f : Nat → Nat → Bool} {M : List (List Bool)} (hl : M.length = m) (hr : ∀ i, i < m → (row M i).length = n) (h : ∀ i j, i < m → j < n → ent M i j = f i j) : M = mkMat m n f :=
  list_ext_row (by rw [mkMat_len]; exact hl) fun i hi => by
    rw [mkMat_row (by omega)]; exact mkRow_eq (hr i (by omega)) fun j hj => h i j (by omega) hj
theorem mkMat_congr {m n : Nat} {f g : Nat → Nat → Bool} (h : ∀ i j, i < m → j < n → f i j = g i j) : mkMat m n f = mkMat m n g :=
  mkMat_eq (mkMat_len _ _ _) (fun i hi => by rw [mkMat_row hi, mkRow_len]) fun i j hi hj => by rw [mkMat_ent hi hj, h i j hi hj]
theorem nth_set (xs : List Bool) (i j : Nat) (x : Bool) (hi : i < xs.length) : nth (xs.set i x) j = if j = i then x else nth xs j := by
  unfold nth
  by_cases h : j = i
  · subst h; simp [hi]
  · rw [if_neg h]; simp [List.getD_eq_getElem?_getD, Ne.symm h]


/-- m rows, n columns -/
def Rect (a : List (List Bool)) (m n : Nat) : Prop := a.length = m ∧ ∀ i, i < m → (row a i).length = n
theorem rect_mk (m n : Nat) (f : Nat → Nat → Bool) : Rect (mkMat m n f) m n := ⟨mkMat_len _ _ _, fun i hi => by rw [mkMat_row hi, mkRow_len]⟩

theorem mkRow_succ (n : Nat) (f : Nat → Bool) : mkRow (n + 1) f = mkRow n f ++ [f n] := by simp [mkRow, List.range_succ]
theorem mkMat_succ (m n : Nat) (f : Nat → Nat → Bool) : mkMat (m + 1) n f = mkMat m n f ++ [mkRow n (f m)] := by simp [mkMat, List.range_succ]
theorem mkRow_zero (f : Nat → Bool) : mkRow 0 f = [] := rfl
theorem mkMat_zero (n : Nat) (f : Nat → Nat → Bool) : mkMat 0 n f = [] := rfl
theorem row_set' (m : List (List Bool)) (i j : Nat) (xs : List Bool) (hi : i < m.length) : row (m.set i xs) j = if j = i then xs else row m j := by
  unfold row
  by_cases h : j = i
  · subst h; simp [hi]
  · rw [if_neg h]; simp [List.getD_eq_getElem?_getD, Ne.symm h]
theorem ent_set {m : List (List Bool)} {i j : Nat} {x : Bool} (hi : i < m.length) (hj : j < (row m i).length) (i' j' : Nat) :
    ent (m.set i ((row m i).set j x)) i' j' = if i' = i ∧ j' = j then x else ent m i' j' := by
  unfold ent
  rw [row_set' m i i' _ hi]
  by_cases h : i' = i
  · subst h
    rw [if_pos rfl, nth_set _ _ _ _ hj]
    by_cases h' : j' = j
    · subst h'; simp
    · simp [h']
  · simp [h]
theorem rect_set {m : List (List Bool)} {i j M N : Nat} {x : Bool} (h : Rect m M N) (hi : i < M) : Rect (m.set i ((row m i).set j x)) M N := by
  refine ⟨by simpa using h.1, fun k hk => ?_⟩
  rw [row_set' m i k _ (by rw [h.1]; exact hi)]
  split
  · rename_i e; subst e; simpa using h.2 k hk
  · exact h.2 k hk
theorem rect_ext {a b : List (List Bool)} {m n : Nat} (ha : Rect a m n) (hb : Rect b m n) (h : ∀ i j, i < m → j < n → ent a i j = ent b i j) : a = b := by
  refine list_ext_row (by rw [ha.1, hb.1]) fun i hi => ?_
  rw [ha.1] at hi
  refine list_ext_nth (by rw [ha.2 i hi, hb.2 i hi]) fun j hj => ?_
  rw [ha.2 i hi] at hj
  exact h i j hi hj
theorem rect_eq_mk {a : List (List Bool)} {m n : Nat} {f : Nat → Nat → Bool} (ha : Rect a m n) (h : ∀ i j, i < m → j < n → ent a i j = f i j) : a = mkMat m n f :=
  rect_ext ha (rect_mk m n f) fun i j hi hj => by rw [mkMat_ent hi hj]; exact h i j hi hj


/-- the entries of D hold F, the others I -/
def FillD (F I : Nat → Nat → Bool) (m n : Nat) (D : Nat → Nat → Prop) (M : List (List Bool)) : Prop :=
  Rect M m n ∧ ∀ i j, i < m → j < n → (D i j → ent M i j = F i j) ∧ (¬ D i j → ent M i j = I i j)
theorem FillD.start {F I : Nat → Nat → Bool} {m n : Nat} {M : List (List Bool)} {D : Nat → Nat → Prop} (hr : Rect M m n) (h : ∀ i j, i < m → j < n → ent M i j = I i j) (hD : ∀ i j, i < m → j < n → ¬ D i j) : FillD F I m n D M :=
  ⟨hr, fun i j hi hj => ⟨fun e => absurd e (hD i j hi hj), fun _ => h i j hi hj⟩⟩
theorem FillD.step {F I : Nat → Nat → Bool} {m n : Nat} {M : List (List Bool)} {D D' : Nat → Nat → Prop} (h : FillD F I m n D M) {i j : Nat} (hi : i < m) (hj : j < n)
    (hD : ∀ i' j', i' < m → j' < n → (D' i' j' ↔ D i' j' ∨ (i' = i ∧ j' = j))) : FillD F I m n D' (M.set i ((row M i).set j (F i j))) := by
  obtain ⟨hr, h⟩ := h
  have hk : i < M.length := by rw [hr.1]; exact hi
  refine ⟨rect_set hr hi, fun i' j' hi' hj' => ?_⟩
  rw [ent_set hk (by rw [hr.2 i hi]; exact hj)]
  by_cases e : i' = i ∧ j' = j
  · obtain ⟨rfl, rfl⟩ := e
    rw [if_pos ⟨rfl, rfl⟩]
    exact ⟨fun _ => rfl, fun hn => absurd ((hD i' j' hi' hj').2 (.inr ⟨rfl, rfl⟩)) hn⟩
  · rw [if_neg e]
    refine ⟨fun hd => (h i' j' hi' hj').1 ?_, fun hn => (h i' j' hi' hj').2 fun hd => hn ((hD i' j' hi' hj').2 (.inl hd))⟩
    rcases (hD i' j' hi' hj').1 hd with h | h
    · exact h
    · exact absurd h e
theorem FillD.congr {F I : Nat → Nat → Bool} {m n : Nat} {M : List (List Bool)} {D D' : Nat → Nat → Prop} (h : FillD F I m n D M) (hD : ∀ i j, i < m → j < n → (D' i j ↔ D i j)) : FillD F I m n D' M :=
  ⟨h.1, fun i j hi hj => ⟨fun e => (h.2 i j hi hj).1 ((hD i j hi hj).1 e), fun e => (h.2 i j hi hj).2 fun d => e ((hD i j hi hj).2 d)⟩⟩
theorem FillD.done {F I : Nat → Nat → Bool} {m n : Nat} {M : List (List Bool)} {D : Nat → Nat → Prop} (h : FillD F I m n D M) (hD : ∀ i j, i < m → j < n → D i j) : M = mkMat m n F :=
  rect_eq_mk h.1 fun i j hi hj => (h.2 i j hi hj).1 (hD i j hi hj)
theorem FillD.todo {F I : Nat → Nat → Bool} {m n : Nat} {M : List (List Bool)} {D : Nat → Nat → Prop} (h : FillD F I m n D M) {i j : Nat} (hi : i < m) (hj : j < n) (hD : ¬ D i j) : ent M i j = I i j := (h.2 i j hi hj).2 hD


/-- a slice of slices that is not empty, opened -/
theorem OwnM.open {w : World} {B n cap : Nat} {a : Option Addr} {m : List (List Bool)} (h : OwnM w B (.slice a n cap) m) (h0 : 0 < m.length) : ∃ g A C, a = some ⟨g, 0, none⟩ ∧ Mat w B g cap A C m := by
  rcases h with ⟨_, h2⟩ | ⟨g, cap', A, C, h1, h2⟩
  · rw [h2] at h0; simp at h0
  · simp only [Value.slice.injEq] at h1
    obtain ⟨rfl, _, rfl⟩ := h1
    exact ⟨g, A, C, rfl, h2⟩
/-- a call that hands back a new slice of slices of Booleans -/
def GivesM (w : World) (m : List (List Bool)) (e : Ending) (w' : World) : Prop := ∃ a cap, e = .returned (.slice a m.length cap) ∧ OwnM w' w.heap.size (.slice a m.length cap) m ∧ Ext w w'
theorem Mat.give {w wr : World} {g cap : Nat} {A : Nat → Option Addr} {C : Nat → Nat} {m : List (List Bool)} {n : Nat} {e : Ending} (h : Mat wr w.heap.size g cap A C m) (hE : Ext w wr) (hn : m.length = n) (he : e = .returned (.slice (some ⟨g, 0, none⟩) n cap)) : GivesM w m e wr :=
  ⟨_, cap, by rw [hn]; exact he, .inr ⟨g, cap, A, C, rfl, h⟩, hE⟩


/-- the cells of a matrix that is read -/
theorem MatAt.base {w : World} {a : Option Addr} {x : List (List Bool)} (h : MatAt w a x) (h0 : 0 < x.length) : ∃ p o, a = some ⟨p, o, none⟩ := by
  obtain ⟨p, o, e, _⟩ := h.at h0; exact ⟨p, o, e⟩
theorem IntsAt.base {w : World} {a : Option Addr} {x : List Bool} (h : IntsAt w a x) (h0 : 0 < x.length) : ∃ p o, a = some ⟨p, o, none⟩ := by
  obtain ⟨p, o, e, _⟩ := h.at h0; exact ⟨p, o, e⟩
theorem IntsAt.cell {w : World} {p o : Nat} {x : List Bool} (h : IntsAt w (some ⟨p, o, none⟩) x) {i : Nat} (hi : i < x.length) : w.cell? ⟨p, o + i, none⟩ = some (.bool (nth x i)) := by
  obtain ⟨p', o', e, hc⟩ := h.at hi
  simp only [Option.some.injEq, Addr.mk.injEq, and_true] at e
  obtain ⟨rfl, rfl⟩ := e
  exact hc i hi
theorem MatAt.hdr {w : World} {p o : Nat} {x : List (List Bool)} (h : MatAt w (some ⟨p, o, none⟩) x) {m n : Nat} (r : Rect x m n) {i : Nat} (hi : i < m) (h0 : 0 < n) :
    ∃ q o2 c, w.cell? ⟨p, o + i, none⟩ = some (.slice (some ⟨q, o2, none⟩) n c) ∧ (∀ j, j < n → w.cell? ⟨q, o2 + j, none⟩ = some (.bool (ent x i j))) ∧ IntsAt w (some ⟨q, o2, none⟩) (row x i) := by
  obtain ⟨p', o', e, hc⟩ := h.at (i := i) (by rw [r.1]; exact hi)
  simp only [Option.some.injEq, Addr.mk.injEq, and_true] at e
  obtain ⟨rfl, rfl⟩ := e
  obtain ⟨ai, ci, c1, hx, _⟩ := hc i (by rw [r.1]; exact hi)
  rw [r.2 i hi] at c1
  obtain ⟨q, o2, rfl, hd⟩ := hx.at (i := 0) (by rw [r.2 i hi]; exact h0)
  exact ⟨q, o2, ci, c1, fun j hj => hd j (by rw [r.2 i hi]; exact hj), hx⟩


theorem FillD.redo {F I I' : Nat → Nat → Bool} {m n : Nat} {M : List (List Bool)} {D : Nat → Nat → Prop} (h : FillD F I m n D M) {i j : Nat} (hi : i < m) (hj : j < n) (hD : ¬ D i j)
    (hI : ∀ i' j', ¬ (i' = i ∧ j' = j) → I' i' j' = I i' j') : FillD F I' m n D (M.set i ((row M i).set j (I' i j))) := by
  obtain ⟨hr, h⟩ := h
  have hk : i < M.length := by rw [hr.1]; exact hi
  refine ⟨rect_set hr hi, fun i' j' hi' hj' => ?_⟩
  rw [ent_set hk (by rw [hr.2 i hi]; exact hj)]
  by_cases e : i' = i ∧ j' = j
  · obtain ⟨rfl, rfl⟩ := e
    rw [if_pos ⟨rfl, rfl⟩]
    exact ⟨fun hd => absurd hd hD, fun _ => rfl⟩
  · rw [if_neg e, hI i' j' e]; exact h i' j' hi' hj'
theorem FillD.swap {F I I' : Nat → Nat → Bool} {m n : Nat} {M : List (List Bool)} {D D' : Nat → Nat → Prop} (h : FillD F I m n D M) (hI : ∀ i j, i < m → j < n → ¬ D' i j → I' i j = I i j ∧ ¬ D i j)
    (hF : ∀ i j, i < m → j < n → D' i j → D i j ∨ (I i j = F i j ∧ ¬ D i j)) : FillD F I' m n D' M :=
  ⟨h.1, fun i j hi hj => ⟨fun hd => by
    rcases hF i j hi hj hd with e | ⟨e1, e2⟩
    · exact (h.2 i j hi hj).1 e
    · rw [(h.2 i j hi hj).2 e2, e1], fun hd => by rw [(hI i j hi hj hd).1]; exact (h.2 i j hi hj).2 (hI i j hi hj hd).2⟩⟩


end Go.Proofs.Ytokhkpbebimohaa.BB
