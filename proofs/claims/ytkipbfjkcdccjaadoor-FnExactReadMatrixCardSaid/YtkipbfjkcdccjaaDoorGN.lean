/- Several texts in one: M6 M7 M8 M9. -/
import Derived.Test.YtkipbfjkcdccjaaDoorGM
import Derived.Test.YtkipbfjkcdccjaaDoorGB
import Derived.Test.YtkipbfjkcdccjaaDoorGP
import Derived.Test.YtkipbfjkcdccjaaDoorGS
/- Contracts of the reference's functions that make lists and matrices. Conditions: the forms and sizes that each states. -/
namespace Go.Proofs.YtkipbfjkcdccjaaDoor
set_option linter.unusedVariables false
open Go.RowKit

end Go.Proofs.YtkipbfjkcdccjaaDoor

/- Contracts of the reference's functions that copy a matrix and write into the copy. Conditions: the forms of the matrices. -/
namespace Go.Proofs.YtkipbfjkcdccjaaDoor
set_option linter.unusedVariables false
open Go.RowKit

/-- a slice of slices that is not empty, opened -/
theorem OwnM.open {w : World} {B n cap : Nat} {a : Option Addr} {m : List (List Int)} (h : OwnM w B (.slice a n cap) m) (h0 : 0 < m.length) : ∃ g A C, a = some ⟨g, 0, none⟩ ∧ Mat w B g cap A C m := by
  rcases h with ⟨_, h2⟩ | ⟨g, cap', A, C, h1, h2⟩
  · rw [h2] at h0; simp at h0
  · simp only [Value.slice.injEq] at h1
    obtain ⟨rfl, _, rfl⟩ := h1
    exact ⟨g, A, C, rfl, h2⟩
theorem Mat.give {w wr : World} {g cap : Nat} {A : Nat → Option Addr} {C : Nat → Nat} {m : List (List Int)} {n : Nat} {e : Ending} (h : Mat wr w.heap.size g cap A C m) (hE : Ext w wr) (hn : m.length = n) (he : e = .returned (.slice (some ⟨g, 0, none⟩) n cap)) : GivesM w m e wr :=
  ⟨_, cap, by rw [hn]; exact he, .inr ⟨g, cap, A, C, rfl, h⟩, hE⟩

end Go.Proofs.YtkipbfjkcdccjaaDoor

/- Contracts of the products of matrices and vectors. Conditions: the forms and bounds of the matrices. -/
namespace Go.Proofs.YtkipbfjkcdccjaaDoor
set_option linter.unusedVariables false
open Go.RowKit

/-- the cells of a matrix that is read -/
theorem MatAt.base {w : World} {a : Option Addr} {x : List (List Int)} (h : MatAt w a x) (h0 : 0 < x.length) : ∃ p o, a = some ⟨p, o, none⟩ := by
  obtain ⟨p, o, e, _⟩ := h.at h0; exact ⟨p, o, e⟩
theorem IntsAt.base {w : World} {a : Option Addr} {x : List Int} (h : IntsAt w a x) (h0 : 0 < x.length) : ∃ p o, a = some ⟨p, o, none⟩ := by
  obtain ⟨p, o, e, _⟩ := h.at h0; exact ⟨p, o, e⟩
theorem IntsAt.cell {w : World} {p o : Nat} {x : List Int} (h : IntsAt w (some ⟨p, o, none⟩) x) {i : Nat} (hi : i < x.length) : w.cell? ⟨p, o + i, none⟩ = some (.int .i64 (nth x i)) := by
  obtain ⟨p', o', e, hc⟩ := h.at hi
  simp only [Option.some.injEq, Addr.mk.injEq, and_true] at e
  obtain ⟨rfl, rfl⟩ := e
  exact hc i hi
theorem MatAt.hdr {w : World} {p o : Nat} {x : List (List Int)} (h : MatAt w (some ⟨p, o, none⟩) x) {m n : Nat} (r : Rect x m n) {i : Nat} (hi : i < m) (h0 : 0 < n) :
    ∃ q o2 c, w.cell? ⟨p, o + i, none⟩ = some (.slice (some ⟨q, o2, none⟩) n c) ∧ (∀ j, j < n → w.cell? ⟨q, o2 + j, none⟩ = some (.int .i64 (ent x i j))) ∧ IntsAt w (some ⟨q, o2, none⟩) (row x i) := by
  obtain ⟨p', o', e, hc⟩ := h.at (i := i) (by rw [r.1]; exact hi)
  simp only [Option.some.injEq, Addr.mk.injEq, and_true] at e
  obtain ⟨rfl, rfl⟩ := e
  obtain ⟨ai, ci, c1, hx, _⟩ := hc i (by rw [r.1]; exact hi)
  rw [r.2 i hi] at c1
  obtain ⟨q, o2, rfl, hd⟩ := hx.at (i := 0) (by rw [r.2 i hi]; exact h0)
  exact ⟨q, o2, ci, c1, fun j hj => hd j (by rw [r.2 i hi]; exact hj), hx⟩


theorem FillD.redo {F I I' : Nat → Nat → Int} {m n : Nat} {M : List (List Int)} {D : Nat → Nat → Prop} (h : FillD F I m n D M) {i j : Nat} (hi : i < m) (hj : j < n) (hD : ¬ D i j)
    (hI : ∀ i' j', ¬ (i' = i ∧ j' = j) → I' i' j' = I i' j') : FillD F I' m n D (M.set i ((row M i).set j (I' i j))) := by
  obtain ⟨hr, h⟩ := h
  have hk : i < M.length := by rw [hr.1]; exact hi
  refine ⟨rect_set hr hi, fun i' j' hi' hj' => ?_⟩
  rw [ent_set hk (by rw [hr.2 i hi]; exact hj)]
  by_cases e : i' = i ∧ j' = j
  · obtain ⟨rfl, rfl⟩ := e
    rw [if_pos ⟨rfl, rfl⟩]
    exact ⟨fun hd => absurd hd hD, fun _ => rfl⟩
  · rw [if_neg e, hI i' j' e]; exact h i' j' hi' hj'
theorem FillD.swap {F I I' : Nat → Nat → Int} {m n : Nat} {M : List (List Int)} {D D' : Nat → Nat → Prop} (h : FillD F I m n D M) (hI : ∀ i j, i < m → j < n → ¬ D' i j → I' i j = I i j ∧ ¬ D i j)
    (hF : ∀ i j, i < m → j < n → D' i j → D i j ∨ (I i j = F i j ∧ ¬ D i j)) : FillD F I' m n D' M :=
  ⟨h.1, fun i j hi hj => ⟨fun hd => by
    rcases hF i j hi hj hd with e | ⟨e1, e2⟩
    · exact (h.2 i j hi hj).1 e
    · rw [(h.2 i j hi hj).2 e2, e1], fun hd => by rw [(hI i j hi hj hd).1]; exact (h.2 i j hi hj).2 (hI i j hi hj hd).2⟩⟩

end Go.Proofs.YtkipbfjkcdccjaaDoor

/- Contracts of paths and cycles. Conditions: the forms of the matrices, the lengths of the lists. -/
namespace Go.Proofs.YtkipbfjkcdccjaaDoor
set_option linter.unusedVariables false
set_option linter.unusedSimpArgs false
open Go.RowKit

theorem IntsAt.take {w : World} {a : Option Addr} {xs : List Int} (h : IntsAt w a xs) (k : Nat) (hk : k ≤ xs.length) : IntsAt w a (xs.take k) := by
  have hl : (xs.take k).length = k := by simp; omega
  refine ⟨by have := h.1; omega, fun hn => ?_⟩
  have hne : xs ≠ [] := by rintro rfl; simp at hn
  obtain ⟨b, o, e, hc⟩ := h.2 hne
  exact ⟨b, o, e, fun i hi => by rw [nth_take (by omega)]; exact hc i (by omega)⟩
def has (xs : List Int) (v : Int) : Bool := xs.contains v
theorem has_yes {xs : List Int} {v : Int} {k : Nat} (h : k < xs.length) (e : nth xs k = v) : has xs v = true := has_iff.2 ⟨k, h, e⟩
theorem has_not {xs : List Int} {v : Int} (h : ∀ i, i < xs.length → nth xs i ≠ v) : has xs v = false := has_no h
def inAll (lo hi : Int) (xs : List Int) : Bool := xs.all fun v => inR v lo hi
theorem nodes_in (n : Nat) (xs : List Int) : nodes n xs = inAll 0 ((n : Int) - 1) xs := rfl
theorem inAll_iff {lo hi : Int} {xs : List Int} : inAll lo hi xs = true ↔ ∀ i, i < xs.length → inR (nth xs i) lo hi = true := by
  unfold inAll; rw [List.all_eq_true]
  constructor
  · intro h i hi; rw [nth_of_lt hi]; exact h _ (List.getElem_mem hi)
  · intro h x hx
    obtain ⟨i, hi, rfl⟩ := List.getElem_of_mem hx
    have := h i hi; rwa [nth_of_lt hi] at this
theorem inAll_no {lo hi : Int} {xs : List Int} {i : Nat} (hi' : i < xs.length) (h : inR (nth xs i) lo hi = false) : inAll lo hi xs = false := by
  cases e : inAll lo hi xs
  · rfl
  · have := inAll_iff.1 e i hi'; rw [h] at this; cases this

end Go.Proofs.YtkipbfjkcdccjaaDoor
