/- What a law's frame reads off its arguments. No condition. -/
import Derived.Deep.Matrix
import Derived.ProofKit
import Derived.Test.YtkipbfjkcdccjaaDoorGB
namespace Go.Proofs.YtkipbfjkcdccjaaDoor
set_option linter.unusedVariables false
open Go.ChangeShapes Go.WideShapes Go.ChangeAt Go.RowKit Go.Deep


theorem mat_of_trod {H : Type} {enc : TypeId × Value → H} {P : Program} {w : World} {t e q : TypeId} (ht : P.underlying t = some (.slice e)) (he : P.underlying e = some (.slice q)) (hq : P.underlying q = some (.int .i64))
    (ce : P.cellsOf e = 1) (cq : P.cellsOf q = 1) {a : Option Addr} {len cap : Nat} {d : DataW H} {ps : List MemPlace} (h : DataW.Trod enc P w 0 (fun _ => true) true t (.slice a len cap) d ps) :
    ∃ m : List (List Int), m.length = len ∧ MatAt w a m ∧ MBd m := by
  obtain ⟨fuel, hf⟩ := h
  rcases open_int_rows ht he hq ce cq hf with ⟨hcs, _⟩ | ⟨x, l, c, A, L, C, Z, hcs, _, hl, hm, _, hx⟩
  · simp [Value.cells] at hcs
    obtain ⟨rfl, rfl, rfl⟩ := hcs
    exact ⟨[], rfl, MatAt.nil _ _, fun i hi => absurd hi (Nat.not_lt_zero _)⟩
  · simp [Value.cells] at hcs
    obtain ⟨rfl, rfl, rfl⟩ := hcs
    have hrow : ∀ r, r < len → row ((List.range len).map fun r => (Z r).take (L r)) r = (Z r).take (L r) := fun r hr => by simp [row, hr]
    have hrl : ∀ r, r < len → ((Z r).take (L r)).length = L r := fun r hr => by
      obtain ⟨_, h2, _, h4, _⟩ := hx r (by omega)
      simp; omega
    have hnone : ∀ (y : Addr) v, w.cell? y = some v → y.spot = none := fun y v hy => by
      cases hs : y.spot with
      | none => rfl
      | some z => exfalso; simp [World.cell?, hs] at hy; split at hy <;> simp_all
    have hmx : maxLen = 9223372036854775807 := rfl
    refine ⟨(List.range len).map fun r => (Z r).take (L r), by simp, ⟨by simp; omega, fun hne => ?_⟩, fun i hi => ?_⟩
    · have h0 : 0 < len := by
        rcases Nat.eq_zero_or_pos len with h | h
        · subst h; simp at hne
        · exact h
      have hx0 := (hx 0 (by omega)).1
      rw [show x.add 0 = x by simp [Addr.add]] at hx0
      obtain ⟨b, o, sp⟩ := x
      have hsp := hnone _ _ hx0
      simp only at hsp
      subst hsp
      refine ⟨b, o, rfl, fun i hi => ?_⟩
      have hi' : i < len := by simpa using hi
      obtain ⟨h1, h2, h3, h4, h5, h6, h7⟩ := hx i (by omega)
      rw [Addr.add_lit] at h1
      refine ⟨A i, C i, by rw [hrow i hi', hrl i hi']; exact h1, ?_, h6⟩
      rw [hrow i hi']
      refine ⟨by rw [hrl i hi']; omega, fun hne2 => ?_⟩
      have hL : 0 < L i := by
        rcases Nat.eq_zero_or_pos (L i) with h | h
        · rw [h] at hne2; simp at hne2
        · exact h
      cases hA : A i with
      | none => have := h6 hA; omega
      | some y =>
        obtain ⟨_, h8⟩ := h7 y hA
        have hy0 := h8 0 (by omega)
        rw [show y.add 0 = y by simp [Addr.add]] at hy0
        obtain ⟨b2, o2, sp2⟩ := y
        have hsp := hnone _ _ hy0
        simp only at hsp
        subst hsp
        refine ⟨b2, o2, rfl, fun j hj => ?_⟩
        rw [hrl i hi'] at hj
        have := h8 j (by omega)
        rw [Addr.add_lit] at this
        rw [this]
        congr 2
        simp [nth, hj]
    · have hi' : i < len := by simpa using hi
      rw [hrow i hi']
      intro j hj
      rw [hrl i hi'] at hj
      obtain ⟨h1, h2, h3, h4, h5, h6, h7⟩ := hx i (by omega)
      have hn : nth ((Z i).take (L i)) j = (Z i).getD j 0 := by simp [nth, hj]
      rw [hn]
      have hlt : j < (Z i).length := by omega
      have : (Z i).getD j 0 ∈ Z i := by simp [hlt]
      exact i64_bd (h5 _ this)

end Go.Proofs.YtkipbfjkcdccjaaDoor
