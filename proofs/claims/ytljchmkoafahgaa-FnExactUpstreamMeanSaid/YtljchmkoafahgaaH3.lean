/- What a law holds in its hands while parts of the memory are written. Conditions: the sizes that each states. -/
import Derived.Test.YtljchmkoafahgaaH2
namespace Go.Proofs.Ytljchmkoafahgaa
set_option linter.unusedVariables false
open Go.RowKit

/-- v holds m in blocks from B on and below T -/
def HasM (w : World) (B T : Nat) (v : Value) (m : List (List Int)) : Prop :=
  T ≤ w.heap.size ∧ ((v = .slice none 0 0 ∧ m = []) ∨ ∃ g cap A C, v = .slice (some ⟨g, 0, none⟩) m.length cap ∧ Mat w B g cap A C m ∧ g < T ∧ ∀ i r o, i < m.length → A i = some ⟨r, o, none⟩ → B ≤ r ∧ r < T)
def HasI (w : World) (B T : Nat) (v : Value) (xs : List Int) : Prop := T ≤ w.heap.size ∧ OwnI w B v xs ∧ ∀ k, v.ownBlock = some k → k < T

section
variable {w w' : World} {B T B' T' g cap : Nat} {A : Nat → Option Addr} {C : Nat → Nat} {v : Value} {m : List (List Int)} {xs : List Int}
theorem Mat.agreeT (h : Mat w B g cap A C m) (hg : g < T) (hr : ∀ i r o, i < m.length → A i = some ⟨r, o, none⟩ → B ≤ r ∧ r < T) (e : ∀ k, B ≤ k → k < T → w'.heap[k]? = w.heap[k]?) : Mat w' B g cap A C m :=
  { h with
    hdr := by rw [e g h.hB hg]; exact h.hdr
    own := fun i hi => (h.own i hi).agree fun k hk => by
      rcases (h.own i hi).form with ⟨h1, _⟩ | ⟨r, cap', h1, _⟩
      · rw [h1] at hk; simp [Value.ownBlock] at hk
      · rw [h1] at hk
        simp only [Value.ownBlock, Option.some.injEq] at hk
        simp only [Value.slice.injEq] at h1
        subst hk
        exact e r (hr i r 0 hi h1.1).1 (hr i r 0 hi h1.1).2 }
theorem HasM.of (h : OwnM w B v m) : HasM w B w.heap.size v m := by
  refine ⟨Nat.le_refl _, ?_⟩
  rcases h with h | ⟨g, cap, A, C, h1, h2⟩
  · exact .inl h
  · refine .inr ⟨g, cap, A, C, h1, h2, h2.lt, fun i r o hi ha => ?_⟩
    have := h2.own i hi
    rw [ha] at this
    exact this.lt (k := r) rfl
theorem HasM.agree (h : HasM w B T v m) (e : ∀ k, B ≤ k → k < T → w'.heap[k]? = w.heap[k]?) (hT : T ≤ w'.heap.size) : HasM w' B T v m := by
  obtain ⟨h0, h⟩ := h
  refine ⟨hT, ?_⟩
  rcases h with h | ⟨g, cap, A, C, h1, h2, h3, h4⟩
  · exact .inl h
  · exact .inr ⟨g, cap, A, C, h1, h2.agreeT h3 h4 e, h3, h4⟩
theorem HasM.ext (h : HasM w B T v m) (e : Ext w w') : HasM w' B T v m := h.agree (fun k a b => Below.block e k (Nat.lt_of_lt_of_le b h.1)) (Nat.le_trans h.1 e.size)
theorem HasM.chg (h : HasM w B T v m) (c : Chg (fun k => B' ≤ k ∧ k < T') w w') (hd : T ≤ B' ∨ T' ≤ B) : HasM w' B T v m :=
  h.agree (fun k a b => c.block k (by omega)) (by rw [c.size]; exact h.1)
theorem HasM.own (h : HasM w B T v m) : OwnM w B v m := by
  rcases h.2 with h | ⟨g, cap, A, C, h1, h2, h3, h4⟩
  · exact .inl h
  · exact .inr ⟨g, cap, A, C, h1, h2⟩
theorem HasM.mat {a : Option Addr} {n cap : Nat} (h : HasM w B T (.slice a n cap) m) : MatAt w a m := h.own.mat
theorem HasI.of (h : OwnI w B v xs) : HasI w B w.heap.size v xs := ⟨Nat.le_refl _, h, fun k hk => (h.lt hk).2⟩
theorem HasI.agree (h : HasI w B T v xs) (e : ∀ k, B ≤ k → k < T → w'.heap[k]? = w.heap[k]?) (hT : T ≤ w'.heap.size) : HasI w' B T v xs :=
  ⟨hT, h.2.1.agree fun k hk => e k (h.2.1.lt hk).1 (h.2.2 k hk), h.2.2⟩
theorem HasI.ext (h : HasI w B T v xs) (e : Ext w w') : HasI w' B T v xs := h.agree (fun k a b => Below.block e k (Nat.lt_of_lt_of_le b h.1)) (Nat.le_trans h.1 e.size)
theorem HasI.chg (h : HasI w B T v xs) (c : Chg (fun k => B' ≤ k ∧ k < T') w w') (hd : T ≤ B' ∨ T' ≤ B) : HasI w' B T v xs :=
  h.agree (fun k a b => c.block k (by omega)) (by rw [c.size]; exact h.1)
theorem HasI.ints {a : Option Addr} {n cap : Nat} (h : HasI w B T (.slice a n cap) xs) : IntsAt w a xs := h.2.1.ints
/-- a change in blocks that are newer than w -/
theorem Ext.chgT {a b c : World} (h : Ext a b) (k : Chg (fun k => B' ≤ k ∧ k < T') b c) (hb : a.heap.size ≤ B') : Ext a c := h.chg k fun i hi => Nat.le_trans hb hi.1
end

theorem markIH_c (B T cap : Nat) (a : Option Addr) (xs : List Int) (k : Int) (w : World) (h : HasI w B T (.slice a xs.length cap) xs) (hk1 : 0 ≤ k) (hk2 : k + xs.length ≤ 4000000000000000000) :
    Calls Try.prog 59 #[.slice a xs.length cap, .int .i64 k] w fun e w' => e = .returned (.int .i64 (k + xs.length)) ∧ HasI w' B T (.slice a xs.length cap) (runI xs.length k) ∧ Chg (fun b => B ≤ b ∧ b < T) w w' := by
  refine (markI_c B cap a xs k w h.2.1 hk1 hk2).mono fun e w' ⟨h5, h6, h7⟩ => ⟨h5, ⟨by rw [h7.size]; exact h.1, h6, h.2.2⟩, h7.mono fun b e => ?_⟩
  subst e
  exact ⟨(h.2.1.lt (k := b) rfl).1, h.2.2 b rfl⟩
theorem markMH_c (B T cap : Nat) (a : Option Addr) (m : List (List Int)) (k : Int) (w : World) (h : HasM w B T (.slice a m.length cap) m) (hk1 : 0 ≤ k) (hk2 : k + tot m ≤ 4000000000000000000) :
    Calls Try.prog 29 #[.slice a m.length cap, .int .i64 k] w fun e w' => e = .returned (.int .i64 (k + tot m)) ∧ HasM w' B T (.slice a m.length cap) (markM m k) ∧ Chg (fun b => B ≤ b ∧ b < T) w w' := by
  obtain ⟨h0, h⟩ := h
  rcases h with ⟨hv, rfl⟩ | ⟨g, cap', A, C, hv, hM, hg, hr⟩
  · simp only [Value.slice.injEq] at hv
    obtain ⟨rfl, -, rfl⟩ := hv
    exact (markM_nil k w).mono fun e w' ⟨h1, h2⟩ => ⟨h1, ⟨by rw [h2.size]; exact h0, .inl ⟨rfl, rfl⟩⟩, h2⟩
  · simp only [Value.slice.injEq, true_and] at hv
    obtain ⟨rfl, rfl⟩ := hv
    exact (markM_mat B T g cap A C m k w hM hr hk1 hk2).mono fun e w' ⟨h1, h2, h3⟩ => ⟨h1, ⟨by rw [h3.size]; exact h0, .inr ⟨g, cap, A, C, by rw [markM_len], h2, hg, fun i r o hi => hr i r o (by simpa [markM_len] using hi)⟩⟩, h3⟩

theorem Chg.cellT {B' T' : Nat} {w w' : World} (c : Chg (fun k => B' ≤ k ∧ k < T') w w') {a : Addr} {v : Value} (h : w.cell? a = some v) (hd : a.block < B') : w'.cell? a = some v := by
  rw [World.cell?_of_block (c.block a.block (fun e => by omega))]; exact h
theorem keepR1 {W w' : World} {p q : Addr} {x y : Value} (c0 : W.cell? p = some x) (c1 : W.cell? q = some y) (h : Ext W w') : Ext W w' ∧ w'.cell? p = some x ∧ w'.cell? q = some y := ⟨h, h.cell c0, h.cell c1⟩
end Go.Proofs.Ytljchmkoafahgaa
