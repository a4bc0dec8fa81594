/- Several texts in one: B2 B3 H1 H2 H3. -/
import Derived.Test.YtkipbfjkcdccjaaDoorGP
import Derived.Test.YtkipbfjkcdccjaaDoorRows
import Derived.Laws.AppendOwnNone
/- Slices that the call itself has made: of integers, and of slices of integers. Definitions and lemmas; no condition. -/
namespace Go.Proofs.YtkipbfjkcdccjaaDoor
set_option linter.unusedVariables false
open Go.RowKit

theorem info_i : (Tryd.prog.info? 2).map (fun i => (i.zero, i.size, i.bytes)) = some (some (.int .i64 0), 1, 8) := by kernel_rfl
theorem info_l : (Tryd.prog.info? 41).map (fun i => (i.zero, i.size, i.bytes)) = some (some (.slice none 0 0), 1, 24) := by kernel_rfl

def iv (n : Int) : Value := .int .i64 n

/-- v is a slice of new memory (from block B on) that holds the integers xs -/
def OwnI (w : World) (B : Nat) (v : Value) (xs : List Int) : Prop := w.ownsRow B 2 1 v xs.length (xs.map (Value.int .i64))

theorem OwnI.nil (w : World) (B : Nat) : OwnI w B (.slice none 0 0) [] := World.ownsRow_nil w B 2 1
theorem OwnI.mono {w : World} {B B' : Nat} {v : Value} {xs : List Int} (h : OwnI w B v xs) (hb : B' ≤ B) : OwnI w B' v xs := by
  refine ⟨h.1, ?_⟩
  rcases h.2 with h2 | ⟨g, cap, cur, h1, h2, h3⟩
  · exact .inl h2
  · exact .inr ⟨g, cap, cur, h1, by omega, h3⟩
theorem OwnI.agree {w w' : World} {B : Nat} {v : Value} {xs : List Int} (h : OwnI w B v xs) (e : ∀ k, v.ownBlock = some k → w'.heap[k]? = w.heap[k]?) : OwnI w' B v xs := by
  refine ⟨h.1, ?_⟩
  rcases h.2 with h2 | ⟨g, cap, cur, h1, h2, h3, h4⟩
  · exact .inl h2
  · exact .inr ⟨g, cap, cur, h1, h2, by rw [e g (by rw [h1]; rfl)]; exact h3, h4⟩
theorem OwnI.lt {w : World} {B : Nat} {v : Value} {xs : List Int} (h : OwnI w B v xs) {k : Nat} (hk : v.ownBlock = some k) : B ≤ k ∧ k < w.heap.size := World.ownsRow.lt h k hk
theorem OwnI.ext {w w' : World} {B : Nat} {v : Value} {xs : List Int} (h : OwnI w B v xs) (e : Ext w w') : OwnI w' B v xs :=
  h.agree fun k hk => Below.block e k (h.lt hk).2

/-- the form of such a slice -/
theorem OwnI.form {w : World} {B : Nat} {v : Value} {xs : List Int} (h : OwnI w B v xs) :
    (v = .slice none 0 0 ∧ xs = []) ∨ ∃ g cap, v = .slice (some ⟨g, 0, none⟩) xs.length cap ∧ B ≤ g ∧ g < w.heap.size ∧ xs.length ≤ cap ∧ cap ≤ 9223372036854775807 ∧
      (∀ j, j < xs.length → w.cell? ⟨g, j, none⟩ = some (.int .i64 (nth xs j))) ∧ (∀ j, w.frozen? ⟨g, j, none⟩ = false) := by
  rcases h.2 with ⟨h1, h2⟩ | ⟨g, cap, cur, h1, h2, h3, h4, h5, _⟩
  · exact .inl ⟨h1, List.eq_nil_of_length_eq_zero h2⟩
  · subst h1
    refine .inr ⟨g, cap, rfl, h2, (Array.getElem?_eq_some_iff.1 h3).1, h4, h5, fun j hj => ?_, fun j => World.ownsRow.frozenAt h j⟩
    rw [World.ownsRow.cellAt h j (by omega)]
    simp [nth, hj]
theorem OwnI.at {w : World} {B : Nat} {v : Value} {xs : List Int} (h : OwnI w B v xs) : ∃ a cap, v = .slice a xs.length cap ∧ IntsAt w a xs := by
  rcases h.form with ⟨rfl, rfl⟩ | ⟨g, cap, rfl, _, _, h1, h2, hc, _⟩
  · exact ⟨none, 0, rfl, IntsAt.nil _ _⟩
  · exact ⟨_, cap, rfl, by omega, fun _ => ⟨g, 0, rfl, fun i hi => by simpa using hc i hi⟩⟩
theorem OwnI.ints {w : World} {B : Nat} {a : Option Addr} {n cap : Nat} {xs : List Int} (h : OwnI w B (.slice a n cap) xs) : IntsAt w a xs := by
  obtain ⟨a', cap', e, hx⟩ := h.at
  simp only [Value.slice.injEq] at e
  obtain ⟨rfl, _, _⟩ := e
  exact hx
theorem OwnI.nocap {w : World} {B : Nat} {a : Option Addr} {n cap : Nat} {xs : List Int} (h : OwnI w B (.slice a n cap) xs) : a = none → cap = 0 := by
  intro e
  subst e
  rcases h.form with ⟨h1, _⟩ | ⟨g, cap', h1, _⟩
  · simp only [Value.slice.injEq] at h1; exact h1.2.2
  · simp at h1
theorem OwnI.len {w : World} {B : Nat} {a : Option Addr} {n cap : Nat} {xs : List Int} (h : OwnI w B (.slice a n cap) xs) : n = xs.length := by
  obtain ⟨a', cap', e, hx⟩ := h.at
  simp only [Value.slice.injEq] at e
  exact e.2.1
/-- what make has laid and a loop has filled -/
theorem OwnI.of_row {w : World} {B g n : Nat} {xs : List Int} (h : w.rowIs g 2 n (fun j => .int .i64 (nth xs j))) (hn : xs.length = n) (hB : B ≤ g) (hm : n ≤ 9223372036854775807) :
    OwnI w B (.slice (some ⟨g, 0, none⟩) n n) xs := by
  obtain ⟨c, hb, hs, hc⟩ := h
  subst hn
  refine ⟨by simp, .inr ⟨g, xs.length, c, rfl, hB, hb, Nat.le_refl _, hm, by omega, ?_⟩⟩
  rw [List.take_of_length_le (by simp; omega)]
  apply List.ext_getElem
  · simp; omega
  · intro i h1 h2
    have h3 : i < xs.length := by simpa using h2
    have := hc i h3
    simp only [Array.getElem_toList, List.getElem_map]
    rw [Array.getElem?_eq_getElem (by omega)] at this
    simp only [Option.some.injEq] at this
    rw [this, nth_of_lt h3]
theorem OwnI.row {w : World} {B g cap : Nat} {xs : List Int} (h : OwnI w B (.slice (some ⟨g, 0, none⟩) xs.length cap) xs) :
    ∃ c : Array Value, w.heap[g]? = some (.cells c 2 (0, 0)) ∧ c.size = cap ∧ xs.length ≤ cap ∧ cap ≤ 9223372036854775807 ∧ ∀ j, j < xs.length → c[j]? = some (.int .i64 (nth xs j)) := by
  rcases h.2 with ⟨h1, _⟩ | ⟨g', cap', cur, h1, h2, h3, h4, h5, h6, h7⟩
  · simp at h1
  · simp only [Value.slice.injEq, Option.some.injEq, Addr.mk.injEq, and_true, true_and] at h1
    obtain ⟨rfl, rfl⟩ := h1
    refine ⟨cur, h3, by omega, h4, h5, fun j hj => ?_⟩
    have : (cur.toList.take (xs.length * 1))[j]? = (xs.map (Value.int .i64))[j]? := by rw [h7]
    rw [List.getElem?_take, if_pos (by omega)] at this
    rw [← Array.getElem?_toList, this]
    simp [nth, hj]
/-- a store into such a slice -/
theorem OwnI.set {w : World} {B g cap : Nat} {xs : List Int} (h : OwnI w B (.slice (some ⟨g, 0, none⟩) xs.length cap) xs) (j : Nat) (x : Int) :
    OwnI (w.setCell ⟨g, j, none⟩ (.int .i64 x)) B (.slice (some ⟨g, 0, none⟩) xs.length cap) (xs.set j x) := by
  have := (World.ownsRow.stored h j (.int .i64 x)).1
  unfold OwnI
  rw [List.map_set, List.length_set]
  exact this

theorem nth_replicate (n : Nat) (x : Int) {j : Nat} (h : j < n) : nth (List.replicate n x) j = x := by simp [nth, h]
/-- what make has laid -/
theorem OwnI.made (w : World) (B n : Nat) (hB : B ≤ w.heap.size) (hn : n ≤ 9223372036854775807) :
    OwnI (w.alloc (.cells (madeCells #[.int .i64 0] n) 2)) B (.slice (some ⟨w.heap.size, 0, none⟩) (List.replicate n (0 : Int)).length n) (List.replicate n 0) := by
  have := OwnI.of_row (xs := List.replicate n 0) ((World.rowIs_made w (.int .i64 0) n 2).congr fun j hj => by rw [nth_replicate n 0 hj]) (by simp) hB hn
  rw [List.length_replicate]; exact this

/-- such a slice, not empty, opened -/
theorem OwnI.open {w : World} {B n cap : Nat} {a : Option Addr} {xs : List Int} (h : OwnI w B (.slice a n cap) xs) (hn : 0 < n) :
    ∃ g, a = some ⟨g, 0, none⟩ ∧ B ≤ g ∧ g < w.heap.size ∧ (∀ j, j < n → w.cell? ⟨g, j, none⟩ = some (.int .i64 (nth xs j))) ∧ (∀ j, w.frozen? ⟨g, j, none⟩ = false) := by
  have hl := h.len
  subst hl
  rcases h.form with ⟨h1, h2⟩ | ⟨g, cap', h1, h2, h3, _, _, h4, h5⟩
  · rw [h2] at hn; simp at hn
  · simp only [Value.slice.injEq] at h1
    exact ⟨g, h1.1, h2, h3, h4, h5⟩

/-- a slice of new slices of integers: its own row is block g -/
structure Mat (w : World) (B g cap : Nat) (A : Nat → Option Addr) (C : Nat → Nat) (m : List (List Int)) : Prop where
  hdr : ∃ c : Array Value, w.heap[g]? = some (.cells c 41 (0, 0)) ∧ c.size = cap ∧ ∀ i, i < m.length → c[i]? = some (.slice (A i) (row m i).length (C i))
  hB : B ≤ g
  le : m.length ≤ cap
  mx : cap ≤ 9223372036854775807
  own : ∀ i, i < m.length → OwnI w B (.slice (A i) (row m i).length (C i)) (row m i)
  ne : ∀ i r o, i < m.length → A i = some ⟨r, o, none⟩ → r ≠ g
  dj : ∀ i j r o o', i < m.length → j < m.length → i ≠ j → A i = some ⟨r, o, none⟩ → A j ≠ some ⟨r, o', none⟩

/-- v is a slice of new memory that holds the lists m, no two of them in one place -/
def OwnM (w : World) (B : Nat) (v : Value) (m : List (List Int)) : Prop :=
  (v = .slice none 0 0 ∧ m = []) ∨ ∃ g cap A C, v = .slice (some ⟨g, 0, none⟩) m.length cap ∧ Mat w B g cap A C m

section
variable {w w' : World} {B g cap : Nat} {A : Nat → Option Addr} {C : Nat → Nat} {m : List (List Int)}

theorem Mat.cell (h : Mat w B g cap A C m) {i : Nat} (hi : i < m.length) : w.cell? ⟨g, i, none⟩ = some (.slice (A i) (row m i).length (C i)) := by
  obtain ⟨c, h1, _, h3⟩ := h.hdr
  simp [World.cell?, h1, h3 i hi]
theorem Mat.frozen (h : Mat w B g cap A C m) (i : Nat) : w.frozen? ⟨g, i, none⟩ = false := by
  obtain ⟨c, h1, _, h3⟩ := h.hdr
  simp [World.frozen?, h1]
theorem Mat.lt (h : Mat w B g cap A C m) : g < w.heap.size := by
  obtain ⟨c, h1, _, h3⟩ := h.hdr
  exact (Array.getElem?_eq_some_iff.1 h1).1
/-- where row i lies -/
theorem Mat.addr (h : Mat w B g cap A C m) {i : Nat} (hi : i < m.length) (h0 : 0 < (row m i).length) :
    ∃ r, A i = some ⟨r, 0, none⟩ ∧ B ≤ r ∧ r < w.heap.size ∧ (∀ j, j < (row m i).length → w.cell? ⟨r, j, none⟩ = some (.int .i64 (ent m i j))) ∧ (∀ j, w.frozen? ⟨r, j, none⟩ = false) := by
  rcases (h.own i hi).form with ⟨h1, h2⟩ | ⟨r, cap', h1, h2, h3, _, _, h4, h5⟩
  · rw [h2] at h0; simp at h0
  · simp only [Value.slice.injEq] at h1
    exact ⟨r, h1.1, h2, h3, h4, h5⟩
theorem Mat.mono {B' : Nat} (h : Mat w B g cap A C m) (hb : B' ≤ B) : Mat w B' g cap A C m :=
  { h with hB := Nat.le_trans hb h.hB, own := fun i hi => (h.own i hi).mono hb }
theorem Mat.agree (h : Mat w B g cap A C m) (e : ∀ k, B ≤ k → k < w.heap.size → w'.heap[k]? = w.heap[k]?) : Mat w' B g cap A C m :=
  { h with
    hdr := by rw [e g h.hB h.lt]; exact h.hdr
    own := fun i hi => (h.own i hi).agree fun k hk => e k ((h.own i hi).lt hk).1 ((h.own i hi).lt hk).2 }
theorem Mat.ext (h : Mat w B g cap A C m) (e : Ext w w') : Mat w' B g cap A C m := h.agree fun k _ hk => Below.block e k hk

theorem row_set (m : List (List Int)) (i j : Nat) (xs : List Int) (hi : i < m.length) : row (m.set i xs) j = if j = i then xs else row m j := by
  unfold row
  by_cases h : j = i
  · subst h; simp [hi]
  · rw [if_neg h]; simp [List.getD_eq_getElem?_getD, Ne.symm h]

/-- a store into row i -/
theorem Mat.set (h : Mat w B g cap A C m) {i : Nat} (hi : i < m.length) {r : Nat} (hr : A i = some ⟨r, 0, none⟩) (j : Nat) (x : Int) :
    Mat (w.setCell ⟨r, j, none⟩ (.int .i64 x)) B g cap A C (m.set i ((row m i).set j x)) := by
  have hrg : r ≠ g := h.ne i r 0 hi hr
  have hl : ∀ k, (row (m.set i ((row m i).set j x)) k).length = (row m k).length := fun k => by
    rw [row_set _ _ _ _ hi]; split
    · rename_i e; subst e; simp
    · rfl
  refine ⟨?_, h.hB, by simpa using h.le, h.mx, fun k hk => ?_, fun k r' o hk => h.ne k r' o (by simpa using hk), fun k k' r' o o' hk hk' => h.dj k k' r' o o' (by simpa using hk) (by simpa using hk')⟩
  · obtain ⟨c, h1, h2, h3⟩ := h.hdr
    refine ⟨c, ?_, h2, fun k hk => by rw [hl]; exact h3 k (by simpa using hk)⟩
    rw [Below.heap_setCell _ _ _ _ (fun e => hrg e.symm)]; exact h1
  · have hk' : k < m.length := by simpa using hk
    rw [hl, row_set _ _ _ _ hi]
    by_cases e : k = i
    · subst e
      rw [if_pos rfl, hr]
      have ho := h.own k hk'
      rw [hr] at ho
      exact ho.set j x
    · rw [if_neg e]
      refine (h.own k hk').agree fun b hb => Below.heap_setCell _ _ _ _ ?_
      intro eb
      cases ha : A k with
      | none => rw [ha] at hb; simp [Value.ownBlock] at hb
      | some a =>
        rcases (h.own k hk').form with ⟨h1, _⟩ | ⟨r', cap', h1, _⟩
        · rw [ha] at h1; simp at h1
        · simp only [Value.slice.injEq] at h1
          rw [h1.1] at hb
          simp only [Value.ownBlock, Option.some.injEq] at hb
          refine h.dj k i r' 0 0 hk' hi e h1.1 ?_
          rw [hr, hb, eb]

/-- a new row is laid at place i of the matrix -/
theorem Mat.setRow (h : Mat w B g cap A C m) {i : Nat} (hi : i < m.length) {a : Option Addr} {c : Nat} {xs : List Int} {S : Nat} (hS : S ≤ w.heap.size) (hg : g < S)
    (hA : ∀ k r o, k < m.length → A k = some ⟨r, o, none⟩ → r < S) (ho : OwnI w S (.slice a xs.length c) xs) (hBS : B ≤ S) :
    Mat (w.setCell ⟨g, i, none⟩ (.slice a xs.length c)) B g cap (fun k => if k = i then a else A k) (fun k => if k = i then c else C k) (m.set i xs) := by
  have hal : ∀ r o, a = some ⟨r, o, none⟩ → S ≤ r := fun r o e => by
    subst e; exact (ho.lt (k := r) rfl).1
  have hcur : ∀ (v : Value) (ys : List Int), OwnI w B v ys → (∀ k, v.ownBlock = some k → k ≠ g) → OwnI (w.setCell ⟨g, i, none⟩ (.slice a xs.length c)) B v ys := fun v ys hv hne =>
    hv.agree fun k hk => Below.heap_setCell _ _ _ _ (hne k hk)
  refine ⟨?_, h.hB, by simpa using h.le, h.mx, fun k hk => ?_, fun k r o hk => ?_, fun k k' r o o' hk hk' hne => ?_⟩
  · obtain ⟨c0, h1, h2, h3⟩ := h.hdr
    refine ⟨c0.setIfInBounds i (.slice a xs.length c), by simp [World.setCell, Array.getElem?_modify, h1], by simpa using h2, fun k hk => ?_⟩
    have hk' : k < m.length := by simpa using hk
    have hic : i < c0.size := by rw [h2]; exact Nat.lt_of_lt_of_le hi h.le
    rw [Array.getElem?_setIfInBounds, row_set _ _ _ _ hi]
    by_cases e : k = i
    · subst e; simp [hic]
    · simp only [if_neg e, if_neg (Ne.symm e)]; exact h3 k hk'
  · have hk' : k < m.length := by simpa using hk
    rw [row_set _ _ _ _ hi]
    by_cases e : k = i
    · subst e
      simp only [if_pos]
      exact hcur _ _ (ho.mono hBS) fun b hb => by have := (ho.lt hb).1; omega
    · simp only [if_neg e]
      refine hcur _ _ (h.own k hk') fun b hb => ?_
      rcases (h.own k hk').form with ⟨h1, _⟩ | ⟨r', cap', h1, _⟩
      · rw [h1] at hb; simp [Value.ownBlock] at hb
      · rw [h1] at hb
        simp only [Value.ownBlock, Option.some.injEq] at hb
        simp only [Value.slice.injEq] at h1
        rw [← hb]; exact h.ne k r' 0 hk' h1.1
  · have hk' : k < m.length := by simpa using hk
    by_cases e : k = i
    · subst e; simp only [if_pos]; intro e; have := hal r o e; omega
    · simp only [if_neg e]; exact h.ne k r o hk'
  · have h1' : k < m.length := by simpa using hk
    have h2' : k' < m.length := by simpa using hk'
    by_cases e : k = i
    · subst e
      have e' : k' ≠ k := Ne.symm hne
      simp only [if_pos, if_neg e']
      intro ea eb
      have := hal r o ea; have := hA k' r o' h2' eb; omega
    · by_cases e' : k' = i
      · subst e'
        simp only [if_pos, if_neg e]
        intro ea eb
        have := hal r o' eb; have := hA k r o h1' ea; omega
      · simp only [if_neg e, if_neg e']
        exact h.dj k k' r o o' h1' h2' hne

/-- what make has laid: a row of nil slices -/
theorem Mat.made (w : World) (n : Nat) (hB : B ≤ w.heap.size) (hn : n ≤ 9223372036854775807) :
    Mat (w.alloc (.cells (madeCells #[.slice none 0 0] n) 41)) B w.heap.size n (fun _ => none) (fun _ => 0) (List.replicate n []) := by
  obtain ⟨c, h1, h2, h3⟩ := World.rowIs_made w (.slice none 0 0) n 41
  have hr : ∀ i, row (List.replicate n []) i = [] := fun i => by
    unfold row; simp [List.getD_eq_getElem?_getD, List.getElem?_replicate]; split <;> rfl
  refine ⟨⟨c, h1, h2, fun i hi => by rw [hr]; exact h3 i (by simpa using hi)⟩, hB, by simp, hn, fun i hi => by rw [hr]; exact OwnI.nil _ _, fun _ _ _ _ e => by simp at e, fun _ _ _ _ _ _ _ _ e => by simp at e⟩

theorem Mat.at (h : Mat w B g cap A C m) : MatAt w (some ⟨g, 0, none⟩) m :=
  ⟨by have := h.le; have := h.mx; omega, fun _ => ⟨g, 0, rfl, fun i hi => ⟨A i, C i, by rw [Nat.zero_add]; exact h.cell hi, (h.own i hi).ints, (h.own i hi).nocap⟩⟩⟩
end

section
variable {w w' : World} {B : Nat} {v : Value} {m : List (List Int)}
theorem OwnM.nil (w : World) (B : Nat) : OwnM w B (.slice none 0 0) [] := .inl ⟨rfl, rfl⟩
theorem OwnM.mono {B' : Nat} (h : OwnM w B v m) (hb : B' ≤ B) : OwnM w B' v m := by
  rcases h with h | ⟨g, cap, A, C, h1, h2⟩
  · exact .inl h
  · exact .inr ⟨g, cap, A, C, h1, h2.mono hb⟩
theorem OwnM.agree (h : OwnM w B v m) (e : ∀ k, B ≤ k → k < w.heap.size → w'.heap[k]? = w.heap[k]?) : OwnM w' B v m := by
  rcases h with h | ⟨g, cap, A, C, h1, h2⟩
  · exact .inl h
  · exact .inr ⟨g, cap, A, C, h1, h2.agree e⟩
theorem OwnM.ext (h : OwnM w B v m) (e : Ext w w') : OwnM w' B v m := h.agree fun k _ hk => Below.block e k hk
theorem OwnM.at (h : OwnM w B v m) : ∃ a cap, v = .slice a m.length cap ∧ MatAt w a m := by
  rcases h with ⟨rfl, rfl⟩ | ⟨g, cap, A, C, rfl, h2⟩
  · exact ⟨none, 0, rfl, MatAt.nil _ _⟩
  · exact ⟨_, cap, rfl, h2.at⟩
theorem OwnM.mat {a : Option Addr} {n cap : Nat} (h : OwnM w B (.slice a n cap) m) : MatAt w a m := by
  obtain ⟨a', cap', e, hx⟩ := h.at
  simp only [Value.slice.injEq] at e
  obtain ⟨rfl, _, _⟩ := e
  exact hx
theorem OwnM.len {a : Option Addr} {n cap : Nat} (h : OwnM w B (.slice a n cap) m) : n = m.length := by
  obtain ⟨a', cap', e, hx⟩ := h.at
  simp only [Value.slice.injEq] at e
  exact e.2.1
end

/-- only blocks of S may have changed -/
structure Chg (S : Nat → Prop) (w w' : World) : Prop where
  os : w'.os = w.os
  tape : w'.tape = w.tape
  output : w'.output = w.output
  size : w'.heap.size = w.heap.size
  block : ∀ k, ¬ S k → w'.heap[k]? = w.heap[k]?
theorem Chg.refl (S : Nat → Prop) (w : World) : Chg S w w := ⟨rfl, rfl, rfl, rfl, fun _ _ => rfl⟩
theorem Chg.trans {S : Nat → Prop} {a b c : World} (h : Chg S a b) (k : Chg S b c) : Chg S a c :=
  ⟨k.os.trans h.os, k.tape.trans h.tape, k.output.trans h.output, k.size.trans h.size, fun i hi => (k.block i hi).trans (h.block i hi)⟩
theorem Chg.mono {S T : Nat → Prop} {a b : World} (h : Chg S a b) (hs : ∀ k, S k → T k) : Chg T a b := { h with block := fun k hk => h.block k fun e => hk (hs k e) }
theorem Chg.set (w : World) (a : Addr) (v : Value) : Chg (fun k => k = a.block) w (w.setCell a v) :=
  ⟨rfl, rfl, rfl, by simp, fun k hk => Below.heap_setCell _ _ _ _ hk⟩
theorem Chg.qt {S : Nat → Prop} {a b c : World} (h : Chg S a b) (k : Qt b c) : Chg S a c := by obtain ⟨n, rfl⟩ := k; exact ⟨h.os, h.tape, h.output, h.size, h.block⟩
theorem Qt.chg {S : Nat → Prop} {a b : World} (h : Qt a b) : Chg S a b := (Chg.refl S a).qt h
/-- a change in blocks that are newer than w -/
theorem Ext.chg {S : Nat → Prop} {w a b : World} (h : Ext w a) (k : Chg S a b) (hs : ∀ i, S i → w.heap.size ≤ i) : Ext w b :=
  ⟨k.os.trans (Below.os h), k.tape.trans (Below.tape h), k.output.trans (Below.output h), by rw [k.size]; exact h.size, fun i hi => (k.block i fun e => by have := hs i e; omega).trans (Below.block h i hi)⟩
theorem OwnI.chg {S : Nat → Prop} {w w' : World} {B : Nat} {v : Value} {xs : List Int} (h : OwnI w B v xs) (c : Chg S w w') (hs : ∀ k, v.ownBlock = some k → ¬ S k) : OwnI w' B v xs :=
  h.agree fun k hk => c.block k (hs k hk)
theorem OwnM.chg {S : Nat → Prop} {w w' : World} {B : Nat} {v : Value} {m : List (List Int)} (h : OwnM w B v m) (c : Chg S w w') (hs : ∀ k, S k → k < B ∨ w.heap.size ≤ k) : OwnM w' B v m :=
  h.agree fun k h1 h2 => c.block k fun e => by rcases hs k e with h | h <;> omega

/-- row i has been written anew, in its place -/
theorem Mat.upd {w w' : World} {B g cap : Nat} {A : Nat → Option Addr} {C : Nat → Nat} {m : List (List Int)} {S : Nat → Prop} (h : Mat w B g cap A C m) {i : Nat} (hi : i < m.length) {ys : List Int} (hl : ys.length = (row m i).length)
    (ho : OwnI w' B (.slice (A i) (row m i).length (C i)) ys) (c : Chg S w w') (hS : ∀ k, S k → ∃ o, A i = some ⟨k, o, none⟩) : Mat w' B g cap A C (m.set i ys) := by
  have hlen : ∀ k, (row (m.set i ys) k).length = (row m k).length := fun k => by
    rw [row_set _ _ _ _ hi]; split
    · rename_i e; subst e; exact hl
    · rfl
  refine ⟨?_, h.hB, by simpa using h.le, h.mx, fun k hk => ?_, fun k r' o hk => h.ne k r' o (by simpa using hk), fun k k' r' o o' hk hk' => h.dj k k' r' o o' (by simpa using hk) (by simpa using hk')⟩
  · obtain ⟨c0, h1, h2, h3⟩ := h.hdr
    refine ⟨c0, ?_, h2, fun k hk => by rw [hlen]; exact h3 k (by simpa using hk)⟩
    rw [c.block g fun e => by obtain ⟨o, e⟩ := hS g e; exact h.ne i g o hi e rfl]; exact h1
  · have hk' : k < m.length := by simpa using hk
    rw [hlen, row_set _ _ _ _ hi]
    by_cases e : k = i
    · subst e; rw [if_pos rfl]; exact ho
    · rw [if_neg e]
      refine (h.own k hk').chg c fun b hb hs => ?_
      obtain ⟨o, ho'⟩ := hS b hs
      rcases (h.own k hk').form with ⟨h1, _⟩ | ⟨r', cap', h1, _⟩
      · rw [h1] at hb; simp [Value.ownBlock] at hb
      · rw [h1] at hb
        simp only [Value.ownBlock, Option.some.injEq] at hb
        simp only [Value.slice.injEq] at h1
        rw [hb] at h1
        exact h.dj k i b 0 o hk' hi e h1.1 ho'

/-- a call that hands back a new slice of integers, or of such slices -/
def GivesI (w : World) (xs : List Int) (e : Ending) (w' : World) : Prop := ∃ a cap, e = .returned (.slice a xs.length cap) ∧ OwnI w' w.heap.size (.slice a xs.length cap) xs ∧ Ext w w'
def GivesM (w : World) (m : List (List Int)) (e : Ending) (w' : World) : Prop := ∃ a cap, e = .returned (.slice a m.length cap) ∧ OwnM w' w.heap.size (.slice a m.length cap) m ∧ Ext w w'
/-- .. beside a code -/
def GivesI2 (w : World) (xs : List Int) (k : Int) (e : Ending) (w' : World) : Prop := ∃ a cap, e = .returned (.tuple #[.slice a xs.length cap, .int .i64 k]) ∧ OwnI w' w.heap.size (.slice a xs.length cap) xs ∧ Ext w w'
def GivesM2 (w : World) (m : List (List Int)) (k : Int) (e : Ending) (w' : World) : Prop := ∃ a cap, e = .returned (.tuple #[.slice a m.length cap, .int .i64 k]) ∧ OwnM w' w.heap.size (.slice a m.length cap) m ∧ Ext w w'

end Go.Proofs.YtkipbfjkcdccjaaDoor

/- Appending to slices that the call itself has made. No condition but the sizes. -/
namespace Go.Proofs.YtkipbfjkcdccjaaDoor
set_option linter.unusedVariables false
open Go.RowKit

theorem World.grownBy.refl' (w : World) (row : Option Nat) : w.grownBy w row := ⟨rfl, rfl, rfl, Nat.le_refl _, fun _ _ _ => rfl⟩
theorem cell_one (w : World) (x : Value) (t : TypeId) : (w.alloc (.cells #[x] t)).cell? ⟨w.heap.size, 0, none⟩ = some x := by simp

/-- append of one integer -/
theorem app_i {ops : Array Oper} {rest : List Oper} {o : Oper} {a : Act} {Q : Exit → Act → World → Prop} {w : World} (hgd : o.guard = none) (s x : Operand)
    (ho : o.op = .call { callee := .builtin .append, args := #[s, x], argTypes := #[41, 41] })
    (B : Nat) (v : Value) (xs : List Int) (hs : a.eval s = v) (hown : OwnI w B v xs) (ad : Addr) (c : Nat) (y : Int) (hx : a.eval x = .slice (some ad) 1 c) (hc : w.cell? ad = some (.int .i64 y))
    (hl : xs.length ≤ 1000000000) (hB : B ≤ w.heap.size)
    (h : ∀ v' w', OwnI w' B v' (xs ++ [y]) → w.grownBy w' v.ownBlock → wpList Tryd.prog ops Q rest (a.put o.dst v') w') : wpList Tryd.prog ops Q (o :: rest) a w := by
  obtain ⟨i0, hi, hz0, hz1, hz2⟩ := info_parts info_i
  refine wpList_append_own w hgd s x 41 ho B 2 i0 (.int .i64 0) 1 8 Tryd.underlying41 hi hz0 hz1 hz2 rfl (by decide) v xs.length (xs.map (Value.int .i64)) hs hown ad 1 c [.int .i64 y] hx rfl ?_ ?_ ?_ ?_ hB ?_
  · intro j u hj
    match j, hj with
    | 0, hj =>
      simp only [List.getElem?_cons_zero, Option.some.injEq] at hj
      subst hj
      have : ad.add 0 = ad := by simp [Addr.add]
      rw [this]; exact hc
  · intro u hu; simp only [List.mem_singleton] at hu; subst hu; rfl
  · have : maxLen = 9223372036854775807 := rfl
    omega
  · omega
  · intro v' w' h1 h2 _
    refine h v' w' ?_ h2
    unfold OwnI
    simpa using h1

/-- append of a whole slice of integers -/
theorem app_is {ops : Array Oper} {rest : List Oper} {o : Oper} {a : Act} {Q : Exit → Act → World → Prop} {w : World} (hgd : o.guard = none) (s x : Operand)
    (ho : o.op = .call { callee := .builtin .append, args := #[s, x], argTypes := #[41, 41] })
    (B : Nat) (v : Value) (xs : List Int) (hs : a.eval s = v) (hown : OwnI w B v xs) (ad : Option Addr) (c : Nat) (ys : List Int) (hx : a.eval x = .slice ad ys.length c) (hn : ad = none → c = 0) (hc : IntsAt w ad ys)
    (hl : xs.length + ys.length ≤ 1000000000) (hB : B ≤ w.heap.size)
    (h : ∀ v' w', OwnI w' B v' (xs ++ ys) → w.grownBy w' v.ownBlock → wpList Tryd.prog ops Q rest (a.put o.dst v') w') : wpList Tryd.prog ops Q (o :: rest) a w := by
  obtain ⟨i0, hi, hz0, hz1, hz2⟩ := info_parts info_i
  cases ad with
  | none =>
    have hy : ys = [] := by
      by_cases e : ys = []
      · exact e
      · obtain ⟨b, o, h1, _⟩ := hc.2 e
        simp at h1
    subst hy
    rw [hn rfl] at hx
    refine wpList_append_own_none hgd s x 41 ho B 2 i0 1 Tryd.underlying41 hi v xs.length (xs.map (Value.int .i64)) hs hown hx ?_
    exact h v w (by simpa using hown) (World.grownBy.refl' w v.ownBlock)
  | some ad =>
    refine wpList_append_own w hgd s x 41 ho B 2 i0 (.int .i64 0) 1 8 Tryd.underlying41 hi hz0 hz1 hz2 rfl (by decide) v xs.length (xs.map (Value.int .i64)) hs hown ad ys.length c (ys.map (Value.int .i64)) hx (by simp) ?_ ?_ ?_ ?_ hB ?_
    · intro j u hj
      have hlt : j < ys.length := by
        rcases Nat.lt_or_ge j ys.length with h | h
        · exact h
        · rw [List.getElem?_eq_none (by simpa using h)] at hj; simp at hj
      obtain ⟨b, o, e, hcc⟩ := hc.at hlt
      simp only [Option.some.injEq] at e
      subst e
      rw [Addr.add_lit, hcc j hlt]
      simp [hlt] at hj
      rw [nth_of_lt hlt, hj]
    · intro u hu
      simp only [List.mem_map] at hu
      obtain ⟨n, _, rfl⟩ := hu
      rfl
    · have : maxLen = 9223372036854775807 := rfl
      omega
    · omega
    · intro v' w' h1 h2 _
      refine h v' w' ?_ h2
      unfold OwnI
      simpa using h1

/-- the header of a slice of slices -/
theorem OwnM.hdr {w : World} {B : Nat} {v : Value} {m : List (List Int)} (h : OwnM w B v m) :
    ∃ (A : Nat → Option Addr) (C : Nat → Nat), w.ownsRow B 41 1 v m.length ((List.range m.length).map fun i => .slice (A i) (row m i).length (C i)) ∧
      (∀ i, i < m.length → OwnI w B (.slice (A i) (row m i).length (C i)) (row m i)) ∧ (∀ i j r o o', i < m.length → j < m.length → i ≠ j → A i = some ⟨r, o, none⟩ → A j ≠ some ⟨r, o', none⟩) ∧
      (∀ i r o, i < m.length → A i = some ⟨r, o, none⟩ → v.ownBlock ≠ some r) := by
  rcases h with ⟨rfl, rfl⟩ | ⟨g, cap, A, C, rfl, hM⟩
  · exact ⟨fun _ => none, fun _ => 0, World.ownsRow_nil _ _ _ _, fun i hi => absurd hi (Nat.not_lt_zero _), fun i j r o o' hi => absurd hi (Nat.not_lt_zero _), fun i r o hi => absurd hi (Nat.not_lt_zero _)⟩
  · obtain ⟨c, h1, h2, h3⟩ := hM.hdr
    refine ⟨A, C, ⟨by simp, .inr ⟨g, cap, c, rfl, hM.hB, h1, hM.le, hM.mx, by omega, ?_⟩⟩, hM.own, hM.dj, fun i r o hi ha e => ?_⟩
    · apply List.ext_getElem?
      intro i
      by_cases hi : i < m.length
      · rw [List.getElem?_take, if_pos (by omega), Array.getElem?_toList, h3 i hi]
        simp [hi]
      · rw [List.getElem?_eq_none (by simp; omega), List.getElem?_eq_none (by simp; omega)]
    · simp only [Value.ownBlock, Option.some.injEq] at e
      exact hM.ne i r o hi ha e.symm
theorem OwnM.of_hdr {w : World} {B : Nat} {v : Value} {m : List (List Int)} {A : Nat → Option Addr} {C : Nat → Nat}
    (h : w.ownsRow B 41 1 v m.length ((List.range m.length).map fun i => .slice (A i) (row m i).length (C i)))
    (own : ∀ i, i < m.length → OwnI w B (.slice (A i) (row m i).length (C i)) (row m i)) (dj : ∀ i j r o o', i < m.length → j < m.length → i ≠ j → A i = some ⟨r, o, none⟩ → A j ≠ some ⟨r, o', none⟩) : OwnM w B v m := by
  rcases h.2 with ⟨rfl, h2⟩ | ⟨g, cap, cur, rfl, h2, h3, h4, h5, h6, h7⟩
  · exact .inl ⟨rfl, List.eq_nil_of_length_eq_zero h2⟩
  · refine .inr ⟨g, cap, A, C, rfl, ⟨cur, h3, by omega, fun i hi => ?_⟩, h2, h4, h5, own, fun i r o hi ha e => ?_, dj⟩
    · have e : (cur.toList.take (m.length * 1))[i]? = ((List.range m.length).map fun i => Value.slice (A i) (row m i).length (C i))[i]? := by rw [h7]
      rw [List.getElem?_take, if_pos (by omega)] at e
      rw [← Array.getElem?_toList, e]
      simp [hi]
    · have ho := own i hi
      rw [ha] at ho
      rcases ho.2 with ⟨h1, _⟩ | ⟨g', cap', cur', h1, _, h8, _⟩
      · simp at h1
      · simp only [Value.slice.injEq, Option.some.injEq, Addr.mk.injEq, and_true, true_and] at h1
        rw [← h1.1.1, e, h3] at h8
        simp at h8

/-- append of one row that is new -/
theorem app_m {ops : Array Oper} {rest : List Oper} {o : Oper} {a : Act} {Q : Exit → Act → World → Prop} {w w1 : World} (hgd : o.guard = none) (s x : Operand)
    (ho : o.op = .call { callee := .builtin .append, args := #[s, x], argTypes := #[22, 22] })
    (B : Nat) (v : Value) (m : List (List Int)) (hs : a.eval s = v) (hown : OwnM w1 B v m) (he : Ext w1 w) (ad : Addr) (c : Nat) (ar : Option Addr) (cr : Nat) (ys : List Int) (hx : a.eval x = .slice (some ad) 1 c)
    (hc : w.cell? ad = some (.slice ar ys.length cr)) (hr : OwnI w w1.heap.size (.slice ar ys.length cr) ys)
    (hl : m.length ≤ 1000000000) (hB : B ≤ w1.heap.size)
    (h : ∀ v' w', OwnM w' B v' (m ++ [ys]) → w.grownBy w' v.ownBlock → wpList Tryd.prog ops Q rest (a.put o.dst v') w') : wpList Tryd.prog ops Q (o :: rest) a w := by
  obtain ⟨A, C, h1, h2, h3, h4⟩ := (hown.ext he).hdr
  obtain ⟨i0, hi, hz0, hz1, hz2⟩ := info_parts info_l
  have hlt : ∀ i r o, i < m.length → A i = some ⟨r, o, none⟩ → r < w1.heap.size := by
    intro i r o hi ha
    obtain ⟨A', C', h1', h2', _⟩ := hown.hdr
    have e : ((List.range m.length).map fun i => Value.slice (A i) (row m i).length (C i)) = ((List.range m.length).map fun i => Value.slice (A' i) (row m i).length (C' i)) := by
      have hf := (hown.ext he)
      rcases h1.2 with ⟨_, h0⟩ | ⟨g, cap, cur, ev, _, hg, _, _, _, ht⟩
      · rw [h0] at hi; exact absurd hi (Nat.not_lt_zero _)
      · rcases h1'.2 with ⟨_, h0⟩ | ⟨g', cap', cur', ev', _, hg', _, _, _, ht'⟩
        · rw [h0] at hi; exact absurd hi (Nat.not_lt_zero _)
        · rw [ev] at ev'
          simp only [Value.slice.injEq, Option.some.injEq, Addr.mk.injEq, and_true, true_and] at ev'
          obtain ⟨rfl, rfl⟩ := ev'
          rw [Below.block he g (Array.getElem?_eq_some_iff.1 hg').1, hg'] at hg
          simp only [Option.some.injEq, Obj.cells.injEq, and_true] at hg
          rw [← ht, ← ht', hg]
    have e' := congrArg (fun l => l[i]?) e
    simp only [List.getElem?_map, List.getElem?_range hi, Option.map_some, Option.some.injEq, Value.slice.injEq, true_and] at e'
    have ho := h2' i hi
    rw [← e'.1, ha] at ho
    exact (ho.lt (k := r) rfl).2
  have hnr : ∀ r o, ar = some ⟨r, o, none⟩ → w1.heap.size ≤ r := fun r o e => by subst e; exact (hr.lt (k := r) rfl).1
  have hvlt : ∀ k, v.ownBlock = some k → k < w1.heap.size := by
    intro k hk
    obtain ⟨A', C', h1', _⟩ := hown.hdr
    exact (h1'.lt k hk).2
  refine wpList_append_own w hgd s x 22 ho B 41 i0 (.slice none 0 0) 1 24 Tryd.underlying22 hi hz0 hz1 hz2 rfl (by decide) v m.length _ hs h1 ad 1 c [.slice ar ys.length cr] hx rfl ?_ ?_ ?_ ?_ (Nat.le_trans hB he.size) ?_
  · intro j u hj
    match j, hj with
    | 0, hj =>
      simp only [List.getElem?_cons_zero, Option.some.injEq] at hj
      subst hj
      have : ad.add 0 = ad := by simp [Addr.add]
      rw [this]; exact hc
  · intro u hu; simp only [List.mem_singleton] at hu; subst hu; rfl
  · have : maxLen = 9223372036854775807 := rfl
    omega
  · omega
  · intro v' w' hw hg _
    refine h v' w' ?_ hg
    have keep : ∀ (u : Value) (zs : List Int), OwnI w B u zs → (∀ k, u.ownBlock = some k → v.ownBlock ≠ some k) → OwnI w' B u zs := fun u zs hu hne =>
      hu.agree fun k hk => hg.block k (hu.lt hk).2 fun e => hne k hk e.symm
    have hrow : ∀ i, row (m ++ [ys]) i = if i = m.length then ys else row m i := fun i => by
      unfold row
      by_cases e : i = m.length
      · subst e; simp
      · rw [if_neg e]
        by_cases hlt : i < m.length
        · simp [List.getD_eq_getElem?_getD, List.getElem?_append_left hlt]
        · have : m.length < i := by omega
          simp [List.getD_eq_getElem?_getD, List.getElem?_append, hlt, show i - m.length ≠ 0 by omega]
    refine OwnM.of_hdr (A := fun i => if i = m.length then ar else A i) (C := fun i => if i = m.length then cr else C i) ?_ ?_ ?_
    · have e : ((List.range (m ++ [ys]).length).map fun i => Value.slice (if i = m.length then ar else A i) (row (m ++ [ys]) i).length (if i = m.length then cr else C i)) =
          ((List.range m.length).map fun i => .slice (A i) (row m i).length (C i)) ++ [.slice ar ys.length cr] := by
        rw [List.length_append, List.length_singleton, List.range_succ, List.map_append]
        have eA := List.map_congr_left (l := List.range m.length) (f := fun i => Value.slice (if i = m.length then ar else A i) (row (m ++ [ys]) i).length (if i = m.length then cr else C i)) (g := fun i => Value.slice (A i) (row m i).length (C i)) (fun i hi => by
          have : i ≠ m.length := by have := List.mem_range.1 hi; omega
          simp only [hrow, if_neg this])
        rw [eA]
        simp [hrow]
      rw [e, List.length_append]
      exact hw
    · intro i hi
      rw [hrow]
      by_cases e : i = m.length
      · subst e
        simp only [if_pos]
        refine keep _ _ (hr.mono hB) fun k hk e => ?_
        have := hvlt k e
        have := (hr.lt hk).1
        omega
      · simp only [if_neg e]
        have hi' : i < m.length := by simp at hi; omega
        refine keep _ _ (h2 i hi') fun k hk e => ?_
        rcases (h2 i hi').form with ⟨h5, _⟩ | ⟨r, cap, h5, _⟩
        · rw [h5] at hk; simp [Value.ownBlock] at hk
        · rw [h5] at hk
          simp only [Value.ownBlock, Option.some.injEq] at hk
          simp only [Value.slice.injEq] at h5
          rw [← hk] at e
          exact h4 i r 0 hi' h5.1 e
    · intro i j r o o' hi hj hne
      have hi' : i < m.length + 1 := by simpa using hi
      have hj' : j < m.length + 1 := by simpa using hj
      by_cases e : i = m.length
      · have e' : j ≠ m.length := by omega
        simp only [if_pos e, if_neg e']
        intro ea eb
        have := hnr r o ea
        have := hlt j r o' (by omega) eb
        omega
      · by_cases e' : j = m.length
        · simp only [if_neg e, if_pos e']
          intro ea eb
          have := hnr r o' eb
          have := hlt i r o (by omega) ea
          omega
        · simp only [if_neg e, if_neg e']
          exact h3 i j r o o' (by omega) (by omega) hne

theorem OwnI.base {w : World} {B : Nat} {v : Value} {xs : List Int} (h : OwnI w B v xs) : ∀ k, v.ownBlock = some k → B ≤ k := fun k hk => (h.lt hk).1
theorem OwnM.base {w : World} {B : Nat} {v : Value} {m : List (List Int)} (h : OwnM w B v m) : ∀ k, v.ownBlock = some k → B ≤ k := fun k hk => by
  obtain ⟨A, C, h1, _⟩ := h.hdr
  exact (h1.lt k hk).1

theorem OwnI.empty (w : World) (B : Nat) (hB : B ≤ w.heap.size) : OwnI (w.alloc (.cells #[] 2)) B (.slice (some ⟨w.heap.size, 0, none⟩) 0 0) [] :=
  World.ownsRow_lit w #[] 0 hB (Nat.zero_le _) rfl
theorem OwnM.empty (w : World) (B : Nat) (hB : B ≤ w.heap.size) : OwnM (w.alloc (.cells #[] 41)) B (.slice (some ⟨w.heap.size, 0, none⟩) 0 0) [] :=
  OwnM.of_hdr (m := []) (A := fun _ => none) (C := fun _ => 0) (World.ownsRow_lit w #[] 0 hB (Nat.zero_le _) rfl) (fun i hi => absurd hi (Nat.not_lt_zero _)) (fun i j r o o' hi => absurd hi (Nat.not_lt_zero _))
/-- append of one integer that a new cell holds: what the walk wants at the place -/
theorem grown_i {w0 wr w' : World} {B : Nat} {v : Value} {xs : List Int} {o : Obj} (hE : Ext w0 wr) (hO : OwnI wr B v xs) (hB : w0.heap.size ≤ B) (hg : (wr.alloc o).grownBy w' v.ownBlock) : Ext w0 w' :=
  Below.grown (hE.alloc o) hg (hE.alloc o).size (fun k hk => Nat.le_trans hB (hO.base k hk))
theorem grown_m {w0 wr w' : World} {B : Nat} {v : Value} {m : List (List Int)} {o : Obj} (hE : Ext w0 wr) (hO : OwnM wr B v m) (hB : w0.heap.size ≤ B) (hg : (wr.alloc o).grownBy w' v.ownBlock) : Ext w0 w' :=
  Below.grown (hE.alloc o) hg (hE.alloc o).size (fun k hk => Nat.le_trans hB (hO.base k hk))
theorem Ext.grown {w0 w w' : World} {row : Option Nat} (h : Ext w0 w) (hg : w.grownBy w' row) (hr : ∀ k, row = some k → w0.heap.size ≤ k) : Ext w0 w' := Below.grown h hg h.size hr
end Go.Proofs.YtkipbfjkcdccjaaDoor

/- Contracts of the laws' own helpers over slices. Conditions: the sizes that each states. -/
namespace Go.Proofs.YtkipbfjkcdccjaaDoor
set_option linter.unusedVariables false
open Go.RowKit

set_option maxHeartbeats 400000 in
theorem toI_c (a : Option Addr) (cap : Nat) (xs : List Int) (w : World) (h : IntsAt w a xs) (hl : xs.length ≤ 1048576) :
    Calls Tryd.prog 39 #[.slice a xs.length cap] w (GivesI w xs) := by
  have hmk := run_make_row' (P := Tryd.prog) 41 2 (.int .i64 0) 8 Tryd.underlying41 info_i rfl .i64 .i64 xs.length (by omega) (by omega)
  have hE0 := (Ext.refl w).alloc (.cells (madeCells #[.int .i64 0] xs.length) 2)
  have hR0 := World.rowIs_made w (.int .i64 0) xs.length 2
  go_enter Tryd.func39, Tryd.ntmps39
  go_wp2
  go_loopw [4] (fun i wr => ∃ k : Nat, k ≤ xs.length ∧ i = .int .i64 k ∧ Ext w wr ∧ wr.rowIs w.heap.size 2 xs.length (fun j => .int .i64 (if j < k then nth xs j else 0))) (fun i _ => xs.length - (intOf i).toNat)
  case atStart => exact ⟨0, Nat.zero_le _, rfl, hE0, hR0⟩
  case round =>
    obtain ⟨k, hk, rfl, hE, hR⟩ := hrel
    clear hE0 hR0 hmk
    by_cases hlt : k < xs.length
    · obtain ⟨b, o, rfl, hc⟩ := (h.mono hE).at hlt
      have c1 := hc k hlt
      have c2 : wr.cell? ⟨w.heap.size, k, none⟩ = some (.int .i64 0) := by simpa using hR.cell hlt
      have c3 := hR.frozen k
      clear hc
      go_wp2
      go_roundw
      case rel => exact ⟨k + 1, by omega, by go_num, hE.set (Nat.le_refl _) _, (hR.set k _).congr fun j hj => by
        by_cases e : j = k
        · subst e; simp
        · simp only [if_neg e]; congr 2; simp; omega⟩
      case measure => simp [intOf]; omega
    · obtain rfl : k = xs.length := by omega
      go_wp2
      go_ret
      exact ⟨_, _, rfl, OwnI.of_row (hR.congr fun j hj => by simp [hj]) rfl (Nat.le_refl _) (by omega), hE⟩

set_option maxHeartbeats 400000 in
theorem eqI_c (a b : Option Addr) (ca cb : Nat) (xs ys : List Int) (w : World) (ha : IntsAt w a xs) (hb : IntsAt w b ys) :
    Calls Tryd.prog 30 #[.slice a xs.length ca, .slice b ys.length cb] w fun e w' => e = .returned (.bool (decide (xs = ys))) ∧ Qt w w' := by
  have hla := ha.len
  have hlb := hb.len
  go_enter Tryd.func30, Tryd.ntmps30
  go_wp2
  · have hl := ne_len (by assumption)
    go_ret
    exact ⟨ret_bool (by rw [decide_eq_false (fun h => hl (by rw [h]))]), Qt.refl _⟩
  · have hl : Hid (xs.length = ys.length) := eq_len (by assumption)
    go_loopw [5] (fun i wr => ∃ k : Nat, k ≤ xs.length ∧ i = .int .i64 k ∧ Qt w wr ∧ Hid (∀ j, j < k → nth xs j = nth ys j)) (fun i _ => xs.length - (intOf i).toNat)
    case atStart => exact ⟨0, Nat.zero_le _, rfl, Qt.refl _, fun j hj => absurd hj (Nat.not_lt_zero _)⟩
    case round =>
      obtain ⟨k, hk, rfl, hq, hj⟩ := hrel
      by_cases hlt : k < xs.length
      · obtain ⟨b1, o1, rfl, hc1⟩ := (ha.qt hq).at hlt
        have hlt2 : k < ys.length := by have := hl.out; omega
        obtain ⟨b2, o2, rfl, hc2⟩ := (hb.qt hq).at hlt2
        have d1 := hc1 k hlt
        have d2 := hc2 k hlt2
        clear hc1 hc2
        go_wp2_with fail
        go_big_quiet (fail)
        go_wp2
        · have hne : (nth xs k != nth ys k) = true := by assumption
          go_ret
          exact ⟨ret_bool (by rw [decide_eq_false (fun h => by rw [h] at hne; simp at hne)]), hq.drewN _⟩
        · have he : (nth xs k != nth ys k) = false := by assumption
          have he' := bne_eq_false_iff_eq.1 he
          have He := Lib.hid he'
          clear he'
          go_roundw
          case rel => exact ⟨k + 1, by omega, by go_num, hq.drewN _, fun j h => by
            by_cases e : j = k
            · subst e; exact He.out
            · exact hj.out j (by omega)⟩
          case measure => simp [intOf]; omega
      · go_wp2
        go_ret
        exact ⟨ret_bool (by rw [decide_eq_true (list_ext_nth hl.out (fun i hi => hj.out i (by omega)))]), hq⟩

set_option maxHeartbeats 400000 in
theorem markI_c (B cap : Nat) (a : Option Addr) (xs : List Int) (k : Int) (w : World) (h : OwnI w B (.slice a xs.length cap) xs) (hk1 : 0 ≤ k) (hk2 : k + xs.length ≤ 4000000000000000000) :
    Calls Tryd.prog 31 #[.slice a xs.length cap, .int .i64 k] w fun e w' => e = .returned (.int .i64 (k + xs.length)) ∧ OwnI w' B (.slice a xs.length cap) (runI xs.length k) ∧ Chg (fun b => a = some ⟨b, 0, none⟩) w w' := by
  go_enter Tryd.func31, Tryd.ntmps31
  go_wp2
  go_loopw [1, 5] (fun s i wr => ∃ (t : Nat) (ys : List Int), t ≤ xs.length ∧ i = .int .i64 t ∧ s = .int .i64 (k + t) ∧ OwnI wr B (.slice a xs.length cap) ys ∧ Hid (∀ j, j < t → nth ys j = k + j) ∧ Chg (fun b => a = some ⟨b, 0, none⟩) w wr) (fun _ i _ => xs.length - (intOf i).toNat)
  case atStart => exact ⟨0, xs, Nat.zero_le _, rfl, by simp, h, fun j hj => absurd hj (Nat.not_lt_zero _), Chg.refl _ _⟩
  case round =>
    obtain ⟨t, ys, ht, rfl, rfl, hO, hj, hC⟩ := hrel
    clear h
    have hl := Lib.hid hO.len
    by_cases hlt : t < xs.length
    · obtain ⟨g, rfl, hB, hg, hc, hf⟩ := hO.open (by omega)
      have c1 := hc t hlt
      have c2 := hf t
      clear hc hf
      go_wp2
      go_roundw
      case rel => exact ⟨t + 1, ys.set t (k + t), by omega, by go_num, by congr 1; omega, (by
          have e : xs.length = ys.length := hl.out
          rw [e] at hO ⊢
          exact hO.set t _), (fun j h => by
          have e : xs.length = ys.length := hl.out
          by_cases e' : j = t
          · subst e'; simp [nth, show j < ys.length by omega]
          · have := hj.out j (by omega)
            simp only [nth, List.getD_eq_getElem?_getD, List.getElem?_set_ne (Ne.symm e')] at this ⊢
            exact this), hC.trans ((Chg.set _ _ _).mono fun b e => by subst e; rfl)⟩
      case measure => simp [intOf]; omega
    · obtain rfl : t = xs.length := by omega
      go_wp2
      go_ret
      refine ⟨rfl, ?_, hC⟩
      have e : ys = runI xs.length k := list_ext_nth (by rw [runI_len]; exact hl.out.symm) fun j h => by
        have e : xs.length = ys.length := hl.out
        rw [runI_nth (by omega)]; exact hj.out j (by omega)
      rw [← e]; exact hO

set_option maxHeartbeats 400000 in
theorem heldI_c (a : Option Addr) (cap n : Nat) (k : Int) (w : World) (h : IntsAt w a (runI n k)) (hk1 : 0 ≤ k) (hk2 : k + n ≤ 4000000000000000000) :
    Calls Tryd.prog 32 #[.slice a n cap, .int .i64 k] w fun e w' => e = .returned (.int .i64 (k + n)) ∧ Qt w w' := by
  go_enter Tryd.func32, Tryd.ntmps32
  go_wp2
  go_loopw [1, 5] (fun s i wr => ∃ (t : Nat), t ≤ n ∧ i = .int .i64 t ∧ s = .int .i64 (k + t) ∧ Qt w wr) (fun _ i _ => n - (intOf i).toNat)
  case atStart => exact ⟨0, Nat.zero_le _, rfl, by simp, Qt.refl _⟩
  case round =>
    obtain ⟨t, ht, rfl, rfl, hq⟩ := hrel
    by_cases hlt : t < n
    · obtain ⟨b, o, rfl, hc⟩ := (h.qt hq).at (i := t) (by rw [runI_len]; exact hlt)
      have c1 := hc t (by rw [runI_len]; exact hlt)
      rw [runI_nth hlt] at c1
      clear hc
      have hne : (k + (t : Int) != k + t) = false := by simp
      go_wp2
      go_roundw
      case rel => exact ⟨t + 1, by omega, by go_num, by congr 1; omega, hq⟩
      case measure => simp [intOf]; omega
    · obtain rfl : t = n := by omega
      go_wp2
      go_ret
      exact ⟨rfl, hq⟩

theorem szI_c (a : Option Addr) (cap : Nat) (n : Nat) (left : Int) (w : World) (hn : n ≤ 9223372036854775807) (h : 0 ≤ left ∧ left ≤ 1048576) :
    Calls Tryd.prog 37 #[.slice a n cap, .int .i64 left] w fun e w' => e = .returned (.int .i64 (if left - n < 0 then -1 else left - n)) ∧ w = w' := by
  go_enter Tryd.func37, Tryd.ntmps37
  go_wp2
  all_goals go_ret
  all_goals exact ⟨ret_int (by first | rfl | (split <;> omega)), rfl⟩

end Go.Proofs.YtkipbfjkcdccjaaDoor

/- Contracts of the laws' own helpers over slices of slices. Conditions: the sizes that each states. -/
namespace Go.Proofs.YtkipbfjkcdccjaaDoor
set_option linter.unusedVariables false
open Go.RowKit

set_option maxHeartbeats 400000 in
theorem toM_c (a : Option Addr) (cap : Nat) (m : List (List Int)) (w : World) (h : MatAt w a m) (hl : m.length ≤ 1048576) (hr : ∀ i, i < m.length → (row m i).length ≤ 1048576) :
    Calls Tryd.prog 17 #[.slice a m.length cap] w (GivesM w m) := by
  have hmk := run_make_row' (P := Tryd.prog) 22 41 (.slice none 0 0) 24 Tryd.underlying22 info_l rfl .i64 .i64 m.length (by omega) (by omega)
  have hE0 := (Ext.refl w).alloc (.cells (madeCells #[.slice none 0 0] m.length) 41)
  have hM0 := Mat.made (B := w.heap.size) w m.length (Nat.le_refl _) (by omega)
  go_enter Tryd.func17, Tryd.ntmps17
  go_wp2
  go_loopw [4] (fun i wr => ∃ (k : Nat) (A : Nat → Option Addr) (C : Nat → Nat) (M : List (List Int)), k ≤ m.length ∧ i = .int .i64 k ∧ Ext w wr ∧ Mat wr w.heap.size w.heap.size m.length A C M ∧ Hid (M.length = m.length ∧ ∀ j, j < k → row M j = row m j)) (fun i _ => m.length - (intOf i).toNat)
  case atStart => exact ⟨0, _, _, _, Nat.zero_le _, rfl, hE0, hM0, by simp, fun j hj => absurd hj (Nat.not_lt_zero _)⟩
  case round =>
    obtain ⟨k, A, C, M, hk, rfl, hE, hM, hj⟩ := hrel
    clear hE0 hM0 hmk
    by_cases hlt : k < m.length
    · have hkM : k < M.length := by rw [hj.out.1]; exact hlt
      obtain ⟨b, o, rfl, hc⟩ := (h.mono hE).at hlt
      obtain ⟨ai, ci, c1, hai, _⟩ := hc k hlt
      clear hc
      go_wp2_with fail
      refine (toI_c _ _ _ _ hai (hr k hlt)).mono ?_
      rintro e w2 ⟨a2, cap2, rfl, hO, hE2⟩
      have c2 := (hM.ext hE2).cell hkM
      have c3 := (hM.ext hE2).frozen k
      have c4 := hE2.cell c1
      clear c1
      go_wp2
      go_roundw
      case rel =>
        refine ⟨k + 1, _, _, _, by omega, by go_num, (hE.trans hE2).set (Nat.le_refl _) _, (hM.ext hE2).setRow hkM hE2.size hM.lt (fun i r o hi hA => ?_) hO hE.size, ?_, fun j h => ?_⟩
        · have := hM.own i hi
          rw [hA] at this
          exact (this.lt (k := r) rfl).2
        · simpa using hj.out.1
        · rw [row_set _ _ _ _ hkM]
          by_cases e : j = k
          · subst e; simp
          · rw [if_neg e]; exact hj.out.2 j (by omega)
      case measure => simp [intOf]; omega
    · obtain rfl : k = m.length := by omega
      go_wp2
      go_ret
      have e : M = m := list_ext_row hj.out.1 fun i hi => hj.out.2 i (by rw [← hj.out.1]; exact hi)
      subst e
      exact ⟨_, _, rfl, .inr ⟨_, _, _, _, rfl, hM⟩, hE⟩

set_option maxHeartbeats 400000 in
theorem eqM_c (a b : Option Addr) (ca cb : Nat) (xs ys : List (List Int)) (w : World) (ha : MatAt w a xs) (hb : MatAt w b ys) :
    Calls Tryd.prog 10 #[.slice a xs.length ca, .slice b ys.length cb] w fun e w' => e = .returned (.bool (decide (xs = ys))) ∧ Qt w w' := by
  have hla := ha.len
  have hlb := hb.len
  go_enter Tryd.func10, Tryd.ntmps10
  go_wp2
  · have hl := ne_len (by assumption)
    go_ret
    exact ⟨ret_bool (by rw [decide_eq_false (fun h => hl (by rw [h]))]), Qt.refl _⟩
  · have hl : Hid (xs.length = ys.length) := eq_len (by assumption)
    go_loopw [5] (fun i wr => ∃ k : Nat, k ≤ xs.length ∧ i = .int .i64 k ∧ Qt w wr ∧ Hid (∀ j, j < k → row xs j = row ys j)) (fun i _ => xs.length - (intOf i).toNat)
    case atStart => exact ⟨0, Nat.zero_le _, rfl, Qt.refl _, fun j hj => absurd hj (Nat.not_lt_zero _)⟩
    case round =>
      obtain ⟨k, hk, rfl, hq, hj⟩ := hrel
      by_cases hlt : k < xs.length
      · obtain ⟨b1, o1, rfl, hc1⟩ := (ha.qt hq).at hlt
        have hlt2 : k < ys.length := by have := hl.out; omega
        obtain ⟨b2, o2, rfl, hc2⟩ := (hb.qt hq).at hlt2
        obtain ⟨a1, i1, d1, g1, _⟩ := hc1 k hlt
        obtain ⟨a2, i2, d2, g2, _⟩ := hc2 k hlt2
        clear hc1 hc2
        by_cases he : row xs k = row ys k
        · have He := Lib.hid he
          clear he
          go_wp2_with fail
          go_big_quiet ((go_at_call 30; exact quiet_call (asB (decide_eq_true He.out) (eqI_c _ _ _ _ _ _ _ (g1.qt ⟨_, rfl⟩) (g2.qt ⟨_, rfl⟩)))))
          go_wp2
          go_roundw
          case rel => exact ⟨k + 1, by omega, by go_num, hq.drewN _, fun j h => by
            by_cases e : j = k
            · subst e; exact He.out
            · exact hj.out j (by omega)⟩
          case measure => simp [intOf]; omega
        · have He := Lib.hid he
          clear he
          go_wp2_with fail
          go_big_quiet ((go_at_call 30; exact quiet_call (asB (decide_eq_false He.out) (eqI_c _ _ _ _ _ _ _ (g1.qt ⟨_, rfl⟩) (g2.qt ⟨_, rfl⟩)))))
          go_wp2
          go_ret
          exact ⟨ret_bool (by rw [decide_eq_false (fun h => He.out (by rw [h]))]), hq.drewN _⟩
      · go_wp2
        go_ret
        exact ⟨ret_bool (by rw [decide_eq_true (list_ext_row hl.out (fun i hi => hj.out i (by omega)))]), hq⟩

theorem markM_nil {S : Nat → Prop} (k : Int) (w : World) :
    Calls Tryd.prog 11 #[.slice none 0 0, .int .i64 k] w fun e w' => e = .returned (.int .i64 (k + tot [])) ∧ Chg S w w' := by
  go_enter Tryd.func11, Tryd.ntmps11
  go_wp2
  go_loop [1, 5] (fun s i => s = .int .i64 k ∧ i = .int .i64 0) (fun _ _ => 0)
  case atStart => exact ⟨rfl, rfl⟩
  case round =>
    obtain ⟨rfl, rfl⟩ := hrel
    go_wp2
    go_ret
    exact ⟨ret_int (by simp [tot]), Chg.refl _ _⟩
set_option maxHeartbeats 400000 in
theorem markM_mat (B T g cap : Nat) (A : Nat → Option Addr) (C : Nat → Nat) (m : List (List Int)) (k : Int) (w : World) (hM0 : Mat w B g cap A C m) (hr : ∀ i r o, i < m.length → A i = some ⟨r, o, none⟩ → B ≤ r ∧ r < T) (hk1 : 0 ≤ k) (hk2 : k + tot m ≤ 4000000000000000000) :
    Calls Tryd.prog 11 #[.slice (some ⟨g, 0, none⟩) m.length cap, .int .i64 k] w fun e w' => e = .returned (.int .i64 (k + tot m)) ∧ Mat w' B g cap A C (markM m k) ∧ Chg (fun b => B ≤ b ∧ b < T) w w' := by
  have hlen : m.length ≤ 9223372036854775807 := Nat.le_trans hM0.le hM0.mx
  go_enter Tryd.func11, Tryd.ntmps11
  go_wp2
  go_loopw [1, 5] (fun s i wr => ∃ (t : Nat) (M : List (List Int)), t ≤ m.length ∧ i = .int .i64 t ∧ s = .int .i64 (k + tot (m.take t)) ∧ Mat wr B g cap A C M ∧ Hid (M.length = m.length ∧ (∀ j, j < t → row M j = row (markM m k) j) ∧ ∀ j, t ≤ j → row M j = row m j) ∧ Chg (fun b => B ≤ b ∧ b < T) w wr) (fun _ i _ => m.length - (intOf i).toNat)
  case atStart => exact ⟨0, m, Nat.zero_le _, rfl, by simp [tot], hM0, ⟨rfl, fun j hj => absurd hj (Nat.not_lt_zero _), fun _ _ => rfl⟩, Chg.refl _ _⟩
  case round =>
    obtain ⟨t, M, ht, rfl, rfl, hM, hj, hC⟩ := hrel
    by_cases hlt : t < m.length
    · have htM : t < M.length := by rw [hj.out.1]; exact hlt
      have c1 := hM.cell htM
      have ho := hM.own t htM
      have hts := tot_take_succ m t hlt
      have htl := tot_take_le m (t + 1)
      have hrow : row M t = row m t := hj.out.2.2 t (Nat.le_refl _)
      rw [hrow] at c1 ho
      have Hts := Lib.hid hts
      have Hrow := Lib.hid hrow
      have hbd : k + (tot (m.take t) : Int) + ((row m t).length : Int) ≤ 4000000000000000000 := by omega
      have hbd2 : 0 ≤ k + (tot (m.take t) : Int) := by omega
      clear hts hrow
      go_wp2_with fail
      refine (markI_c _ _ _ _ _ _ ho hbd2 hbd).mono ?_
      rintro e w2 ⟨rfl, hO2, hC2⟩
      go_wp2
      go_roundw
      case rel =>
        refine ⟨t + 1, M.set t (runI (row m t).length (k + tot (m.take t))), by omega, by go_num, by rw [Hts.out]; congr 1; omega, hM.upd htM (by rw [runI_len, Hrow.out]) (by rw [Hrow.out]; exact hO2) hC2 (fun b e => ⟨0, e⟩), ⟨by simpa using hj.out.1, fun j h => ?_, fun j h => ?_⟩, hC.trans (hC2.mono fun b e => hr t b 0 hlt e)⟩
        · rw [row_set _ _ _ _ htM]
          by_cases e : j = t
          · subst e; rw [if_pos rfl, markM_row hlt]
          · rw [if_neg e]; exact hj.out.2.1 j (by omega)
        · rw [row_set _ _ _ _ htM, if_neg (by omega)]
          exact hj.out.2.2 j (by omega)
      case measure => simp [intOf]; omega
    · obtain rfl : t = m.length := by omega
      go_wp2
      go_ret
      have e : M = markM m k := list_ext_row (by rw [markM_len]; exact hj.out.1) fun i hi => hj.out.2.1 i (by rw [← hj.out.1]; exact hi)
      subst e
      exact ⟨ret_int (by rw [List.take_length]), hM, hC⟩

set_option maxHeartbeats 400000 in
theorem heldM_c (a : Option Addr) (cap : Nat) (m : List (List Int)) (k : Int) (w : World) (h : MatAt w a (markM m k)) (hk1 : 0 ≤ k) (hk2 : k + tot m ≤ 4000000000000000000) :
    Calls Tryd.prog 12 #[.slice a m.length cap, .int .i64 k] w fun e w' => e = .returned (.int .i64 (k + tot m)) ∧ Qt w w' := by
  have hlen := h.len
  rw [markM_len] at hlen
  go_enter Tryd.func12, Tryd.ntmps12
  go_wp2
  go_loopw [1, 5] (fun s i wr => ∃ (t : Nat), t ≤ m.length ∧ i = .int .i64 t ∧ s = .int .i64 (k + tot (m.take t)) ∧ Qt w wr) (fun _ i _ => m.length - (intOf i).toNat)
  case atStart => exact ⟨0, Nat.zero_le _, rfl, by simp [tot], Qt.refl _⟩
  case round =>
    obtain ⟨t, ht, rfl, rfl, hq⟩ := hrel
    by_cases hlt : t < m.length
    · obtain ⟨b, o, rfl, hc⟩ := (h.qt hq).at (i := t) (by rw [markM_len]; exact hlt)
      obtain ⟨ai, ci, c1, hai, _⟩ := hc t (by rw [markM_len]; exact hlt)
      rw [markM_row hlt] at c1 hai
      rw [runI_len] at c1
      have hts := tot_take_succ m t hlt
      have htl := tot_take_le m (t + 1)
      have hbd : k + (tot (m.take t) : Int) + ((row m t).length : Int) ≤ 4000000000000000000 := by omega
      have hbd2 : 0 ≤ k + (tot (m.take t) : Int) := by omega
      have hnn : ¬ (k + (tot (m.take t) : Int) + ((row m t).length : Int) < 0) := by omega
      have Hts := Lib.hid hts
      clear hc hts
      go_wp2_with fail
      refine (heldI_c _ _ _ _ _ hai hbd2 hbd).mono ?_
      rintro e w2 ⟨rfl, hq2⟩
      go_wp2
      go_roundw
      case rel => exact ⟨t + 1, by omega, by go_num, by rw [Hts.out]; congr 1; omega, hq.trans hq2⟩
      case measure => simp [intOf]; omega
    · obtain rfl : t = m.length := by omega
      go_wp2
      go_ret
      exact ⟨ret_int (by rw [List.take_length]), hq⟩

set_option maxHeartbeats 400000 in
theorem szM_c (a : Option Addr) (cap : Nat) (m : List (List Int)) (L : Int) (w : World) (h : MatAt w a m) (hL0 : 0 ≤ L) (hL1 : L ≤ 1048576) :
    Calls Tryd.prog 15 #[.slice a m.length cap, .int .i64 L] w fun e w' => e = .returned (.int .i64 (if L - m.length - tot m < 0 then -1 else L - m.length - tot m)) ∧ Qt w w' := by
  have hlen := h.len
  by_cases h0 : L - m.length < 0
  · have e : L - m.length - tot m < 0 := by omega
    rw [if_pos e]
    clear e
    go_enter Tryd.func15, Tryd.ntmps15
    go_wp2
    go_ret
    exact ⟨rfl, Qt.refl _⟩
  · generalize hR : (if L - m.length - tot m < 0 then (-1 : Int) else L - m.length - tot m) = R
    have HR := Lib.hid hR
    clear hR
    go_enter Tryd.func15, Tryd.ntmps15
    go_wp2
    go_loopw [1, 5] (fun s i wr => ∃ (t : Nat), t ≤ m.length ∧ i = .int .i64 t ∧ s = .int .i64 (L - m.length - tot (m.take t)) ∧ 0 ≤ L - m.length - tot (m.take t) ∧ Qt w wr) (fun _ i _ => m.length - (intOf i).toNat)
    case atStart => exact ⟨0, Nat.zero_le _, rfl, by simp [tot], by simp [tot]; omega, Qt.refl _⟩
    case round =>
      obtain ⟨t, ht, rfl, rfl, hnn, hq⟩ := hrel
      by_cases hlt : t < m.length
      · obtain ⟨b, o, rfl, hc⟩ := (h.qt hq).at hlt
        obtain ⟨ai, ci, c1, hai, _⟩ := hc t hlt
        have hts := tot_take_succ m t hlt
        have htl := tot_take_le m (t + 1)
        have hrl := hai.len
        have Hts := Lib.hid hts
        clear hc
        by_cases hs : L - m.length - tot (m.take t) - (row m t).length < 0
        · have e : L - m.length - tot m < 0 := by omega
          have He := Lib.hid e
          clear hts e
          go_wp2_with fail
          refine (szI_c _ _ _ _ _ hrl (by omega)).mono ?_
          rintro e w2 ⟨rfl, rfl⟩
          rw [if_pos hs]
          go_wp2
          go_ret
          exact ⟨ret_int (by rw [← HR.out, if_pos He.out]), hq⟩
        · clear hts
          go_wp2_with fail
          refine (szI_c _ _ _ _ _ hrl (by omega)).mono ?_
          rintro e w2 ⟨rfl, rfl⟩
          rw [if_neg (Int.not_lt.2 hs)]
          go_wp2
          go_roundw
          case rel =>
            have := Hts.out
            exact ⟨t + 1, by omega, by go_num, by rw [this]; congr 1; omega, by omega, hq⟩
          case measure => simp [intOf]; omega
      · obtain rfl : t = m.length := by omega
        rw [List.take_length] at hnn
        go_wp2
        go_ret
        exact ⟨ret_int (by rw [← HR.out, List.take_length, if_neg (by omega)]), hq⟩

end Go.Proofs.YtkipbfjkcdccjaaDoor

/- What a law holds in its hands while parts of the memory are written. Conditions: the sizes that each states. -/
namespace Go.Proofs.YtkipbfjkcdccjaaDoor
set_option linter.unusedVariables false
open Go.RowKit

/-- v holds m in blocks from B on and below T -/
def HasM (w : World) (B T : Nat) (v : Value) (m : List (List Int)) : Prop :=
  T ≤ w.heap.size ∧ ((v = .slice none 0 0 ∧ m = []) ∨ ∃ g cap A C, v = .slice (some ⟨g, 0, none⟩) m.length cap ∧ Mat w B g cap A C m ∧ g < T ∧ ∀ i r o, i < m.length → A i = some ⟨r, o, none⟩ → B ≤ r ∧ r < T)
def HasI (w : World) (B T : Nat) (v : Value) (xs : List Int) : Prop := T ≤ w.heap.size ∧ OwnI w B v xs ∧ ∀ k, v.ownBlock = some k → k < T

section
variable {w w' : World} {B T B' T' g cap : Nat} {A : Nat → Option Addr} {C : Nat → Nat} {v : Value} {m : List (List Int)} {xs : List Int}
theorem Mat.agreeT (h : Mat w B g cap A C m) (hg : g < T) (hr : ∀ i r o, i < m.length → A i = some ⟨r, o, none⟩ → B ≤ r ∧ r < T) (e : ∀ k, B ≤ k → k < T → w'.heap[k]? = w.heap[k]?) : Mat w' B g cap A C m :=
  { h with
    hdr := by rw [e g h.hB hg]; exact h.hdr
    own := fun i hi => (h.own i hi).agree fun k hk => by
      rcases (h.own i hi).form with ⟨h1, _⟩ | ⟨r, cap', h1, _⟩
      · rw [h1] at hk; simp [Value.ownBlock] at hk
      · rw [h1] at hk
        simp only [Value.ownBlock, Option.some.injEq] at hk
        simp only [Value.slice.injEq] at h1
        subst hk
        exact e r (hr i r 0 hi h1.1).1 (hr i r 0 hi h1.1).2 }
theorem HasM.of (h : OwnM w B v m) : HasM w B w.heap.size v m := by
  refine ⟨Nat.le_refl _, ?_⟩
  rcases h with h | ⟨g, cap, A, C, h1, h2⟩
  · exact .inl h
  · refine .inr ⟨g, cap, A, C, h1, h2, h2.lt, fun i r o hi ha => ?_⟩
    have := h2.own i hi
    rw [ha] at this
    exact this.lt (k := r) rfl
theorem HasM.agree (h : HasM w B T v m) (e : ∀ k, B ≤ k → k < T → w'.heap[k]? = w.heap[k]?) (hT : T ≤ w'.heap.size) : HasM w' B T v m := by
  obtain ⟨h0, h⟩ := h
  refine ⟨hT, ?_⟩
  rcases h with h | ⟨g, cap, A, C, h1, h2, h3, h4⟩
  · exact .inl h
  · exact .inr ⟨g, cap, A, C, h1, h2.agreeT h3 h4 e, h3, h4⟩
theorem HasM.ext (h : HasM w B T v m) (e : Ext w w') : HasM w' B T v m := h.agree (fun k a b => Below.block e k (Nat.lt_of_lt_of_le b h.1)) (Nat.le_trans h.1 e.size)
theorem HasM.chg (h : HasM w B T v m) (c : Chg (fun k => B' ≤ k ∧ k < T') w w') (hd : T ≤ B' ∨ T' ≤ B) : HasM w' B T v m :=
  h.agree (fun k a b => c.block k (by omega)) (by rw [c.size]; exact h.1)
theorem HasM.own (h : HasM w B T v m) : OwnM w B v m := by
  rcases h.2 with h | ⟨g, cap, A, C, h1, h2, h3, h4⟩
  · exact .inl h
  · exact .inr ⟨g, cap, A, C, h1, h2⟩
theorem HasM.mat {a : Option Addr} {n cap : Nat} (h : HasM w B T (.slice a n cap) m) : MatAt w a m := h.own.mat
theorem HasI.of (h : OwnI w B v xs) : HasI w B w.heap.size v xs := ⟨Nat.le_refl _, h, fun k hk => (h.lt hk).2⟩
theorem HasI.agree (h : HasI w B T v xs) (e : ∀ k, B ≤ k → k < T → w'.heap[k]? = w.heap[k]?) (hT : T ≤ w'.heap.size) : HasI w' B T v xs :=
  ⟨hT, h.2.1.agree fun k hk => e k (h.2.1.lt hk).1 (h.2.2 k hk), h.2.2⟩
theorem HasI.ext (h : HasI w B T v xs) (e : Ext w w') : HasI w' B T v xs := h.agree (fun k a b => Below.block e k (Nat.lt_of_lt_of_le b h.1)) (Nat.le_trans h.1 e.size)
theorem HasI.chg (h : HasI w B T v xs) (c : Chg (fun k => B' ≤ k ∧ k < T') w w') (hd : T ≤ B' ∨ T' ≤ B) : HasI w' B T v xs :=
  h.agree (fun k a b => c.block k (by omega)) (by rw [c.size]; exact h.1)
theorem HasI.ints {a : Option Addr} {n cap : Nat} (h : HasI w B T (.slice a n cap) xs) : IntsAt w a xs := h.2.1.ints
/-- a change in blocks that are newer than w -/
theorem Ext.chgT {a b c : World} (h : Ext a b) (k : Chg (fun k => B' ≤ k ∧ k < T') b c) (hb : a.heap.size ≤ B') : Ext a c := h.chg k fun i hi => Nat.le_trans hb hi.1
end

theorem markIH_c (B T cap : Nat) (a : Option Addr) (xs : List Int) (k : Int) (w : World) (h : HasI w B T (.slice a xs.length cap) xs) (hk1 : 0 ≤ k) (hk2 : k + xs.length ≤ 4000000000000000000) :
    Calls Tryd.prog 31 #[.slice a xs.length cap, .int .i64 k] w fun e w' => e = .returned (.int .i64 (k + xs.length)) ∧ HasI w' B T (.slice a xs.length cap) (runI xs.length k) ∧ Chg (fun b => B ≤ b ∧ b < T) w w' := by
  refine (markI_c B cap a xs k w h.2.1 hk1 hk2).mono fun e w' ⟨h5, h6, h7⟩ => ⟨h5, ⟨by rw [h7.size]; exact h.1, h6, h.2.2⟩, h7.mono fun b e => ?_⟩
  subst e
  exact ⟨(h.2.1.lt (k := b) rfl).1, h.2.2 b rfl⟩
theorem markMH_c (B T cap : Nat) (a : Option Addr) (m : List (List Int)) (k : Int) (w : World) (h : HasM w B T (.slice a m.length cap) m) (hk1 : 0 ≤ k) (hk2 : k + tot m ≤ 4000000000000000000) :
    Calls Tryd.prog 11 #[.slice a m.length cap, .int .i64 k] w fun e w' => e = .returned (.int .i64 (k + tot m)) ∧ HasM w' B T (.slice a m.length cap) (markM m k) ∧ Chg (fun b => B ≤ b ∧ b < T) w w' := by
  obtain ⟨h0, h⟩ := h
  rcases h with ⟨hv, rfl⟩ | ⟨g, cap', A, C, hv, hM, hg, hr⟩
  · simp only [Value.slice.injEq] at hv
    obtain ⟨rfl, -, rfl⟩ := hv
    exact (markM_nil k w).mono fun e w' ⟨h1, h2⟩ => ⟨h1, ⟨by rw [h2.size]; exact h0, .inl ⟨rfl, rfl⟩⟩, h2⟩
  · simp only [Value.slice.injEq, true_and] at hv
    obtain ⟨rfl, rfl⟩ := hv
    exact (markM_mat B T g cap A C m k w hM hr hk1 hk2).mono fun e w' ⟨h1, h2, h3⟩ => ⟨h1, ⟨by rw [h3.size]; exact h0, .inr ⟨g, cap, A, C, by rw [markM_len], h2, hg, fun i r o hi => hr i r o (by simpa [markM_len] using hi)⟩⟩, h3⟩

theorem Chg.cellT {B' T' : Nat} {w w' : World} (c : Chg (fun k => B' ≤ k ∧ k < T') w w') {a : Addr} {v : Value} (h : w.cell? a = some v) (hd : a.block < B') : w'.cell? a = some v := by
  rw [World.cell?_of_block (c.block a.block (fun e => by omega))]; exact h
theorem keepR1 {W w' : World} {p q : Addr} {x y : Value} (c0 : W.cell? p = some x) (c1 : W.cell? q = some y) (h : Ext W w') : Ext W w' ∧ w'.cell? p = some x ∧ w'.cell? q = some y := ⟨h, h.cell c0, h.cell c1⟩
end Go.Proofs.YtkipbfjkcdccjaaDoor
