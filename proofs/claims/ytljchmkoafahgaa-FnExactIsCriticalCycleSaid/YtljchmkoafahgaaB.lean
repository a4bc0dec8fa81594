/- Plain words for worlds and for slices of integers that are read. No condition: definitions and lemmas. -/
import Derived.WalkKit
import Derived.WalkSpells
import Derived.WalkLawsBesides
import Derived.Deep.QuietTactic
import Derived.BigQuiet
import Derived.Lib.Hide
import Derived.Deep.Light
import Derived.Deep.LoopGhost
import Derived.Deep.OwnRows
import Derived.StillTailTactics
import Derived.Deep.RegionHeld3
import Derived.OpenShut
namespace Go.Proofs.Ytljchmkoafahgaa
set_option linter.unusedVariables false
open Go.RowKit

/-- only draws lie between -/
def Qt (w w' : World) : Prop := ∃ n, w' = w.drewN n
theorem Qt.refl (w : World) : Qt w w := ⟨0, rfl⟩
theorem Qt.trans {a b c : World} (h : Qt a b) (k : Qt b c) : Qt a c := by
  obtain ⟨n, rfl⟩ := h; obtain ⟨m, rfl⟩ := k; exact ⟨n + m, by simp [World.drewN, Nat.add_assoc]⟩
theorem Qt.drewN {a b : World} (h : Qt a b) (n : Nat) : Qt a (b.drewN n) := h.trans ⟨n, rfl⟩
theorem Qt.drew {a b : World} (h : Qt a b) : Qt a b.drew := h.trans ⟨1, rfl⟩
theorem Qt.cell {w w' : World} (h : Qt w w') (a : Addr) : w'.cell? a = w.cell? a := by obtain ⟨n, rfl⟩ := h; rfl
theorem Qt.frozen {w w' : World} (h : Qt w w') (a : Addr) : w'.frozen? a = w.frozen? a := by obtain ⟨n, rfl⟩ := h; rfl
theorem Qt.heap {w w' : World} (h : Qt w w') : w'.heap = w.heap := by obtain ⟨n, rfl⟩ := h; rfl
theorem Qt.size {w w' : World} (h : Qt w w') : w'.heap.size = w.heap.size := by rw [h.heap]
theorem Qt.below {w w' : World} (h : Qt w w') (B : Nat) : Below B w w' := by
  obtain ⟨n, rfl⟩ := h; exact ⟨rfl, rfl, rfl, Nat.le_refl _, fun _ _ => rfl⟩

/-- nothing that was there has changed -/
def Ext (w w' : World) : Prop := Below w.heap.size w w'
theorem Ext.refl (w : World) : Ext w w := Below.refl _ _
theorem Ext.below {w w' : World} (h : Ext w w') : Below w.heap.size w w' := h
theorem Ext.size {w w' : World} (h : Ext w w') : w.heap.size ≤ w'.heap.size := Below.size h
theorem Ext.trans {a b c : World} (h : Ext a b) (k : Ext b c) : Ext a c := Below.trans h (Below.mono k h.size)
theorem Qt.ext {w w' : World} (h : Qt w w') : Ext w w' := h.below _
theorem Ext.qt {a b c : World} (h : Ext a b) (k : Qt b c) : Ext a c := h.trans k.ext
theorem Ext.drew {a b : World} (h : Ext a b) : Ext a b.drew := h.qt ⟨1, rfl⟩
theorem Ext.drewN {a b : World} (h : Ext a b) (n : Nat) : Ext a (b.drewN n) := h.qt ⟨n, rfl⟩
theorem Ext.alloc {a b : World} (h : Ext a b) (o : Obj) : Ext a (b.alloc o) := Below.alloc h h.size o
theorem Ext.cell {w w' : World} (h : Ext w w') {a : Addr} {v : Value} (hv : w.cell? a = some v) : w'.cell? a = some v := by
  rw [Below.cell h (World.block_lt_of_cell? _ _ hv)]; exact hv
theorem Ext.set {a b : World} (h : Ext a b) {p : Addr} (hp : a.heap.size ≤ p.block) (v : Value) : Ext a (b.setCell p v) := Below.setCell h hp v

/-- two cells of a block that may be written -/
structure Box2 (w : World) (b : Nat) (x y : Value) : Prop where
  c0 : w.cell? ⟨b, 0, none⟩ = some x
  c1 : w.cell? ⟨b, 1, none⟩ = some y
  f0 : w.frozen? ⟨b, 0, none⟩ = false
  f1 : w.frozen? ⟨b, 1, none⟩ = false
theorem Ext.frozen {w w' : World} (h : Ext w w') {a : Addr} (ha : a.block < w.heap.size) : w'.frozen? a = w.frozen? a := Below.frozen h ha
theorem Box2.lt {w : World} {b : Nat} {x y : Value} (h : Box2 w b x y) : b < w.heap.size := World.block_lt_of_cell? w ⟨b, 0, none⟩ h.c0
theorem Box2.ext {w w' : World} {b : Nat} {x y : Value} (h : Box2 w b x y) (e : Ext w w') : Box2 w' b x y :=
  ⟨e.cell h.c0, e.cell h.c1, by rw [e.frozen (a := ⟨b, 0, none⟩) h.lt]; exact h.f0, by rw [e.frozen (a := ⟨b, 1, none⟩) h.lt]; exact h.f1⟩
theorem Box2.qt {w w' : World} {b : Nat} {x y : Value} (h : Box2 w b x y) (e : Qt w w') : Box2 w' b x y := h.ext e.ext
/-- a struct of two fields is laid into new memory -/
theorem alloc2_facts (w : World) (x y : Value) (t : TypeId) : ∃ W, w.alloc (.cells #[x, y] t) = W ∧ Box2 W w.heap.size x y ∧ W.heap.size = w.heap.size + 1 ∧ Ext w W :=
  ⟨_, rfl, ⟨by simp, by simp, by simp, by simp⟩, by simp, (Ext.refl w).alloc _⟩

theorem keepR2 {W w' : World} {p q r s : Addr} {x y z t : Value} (c0 : W.cell? p = some x) (c1 : W.cell? q = some y) (d0 : W.cell? r = some z) (d1 : W.cell? s = some t) (h : Ext W w') :
    Ext W w' ∧ w'.cell? p = some x ∧ w'.cell? q = some y ∧ w'.cell? r = some z ∧ w'.cell? s = some t := ⟨h, h.cell c0, h.cell c1, h.cell d0, h.cell d1⟩

theorem quiet_call {P : Program} {f : FuncId} {args : Array Value} {w : World} {n : Nat} {v : Value}
    (h : Calls P f args (w.drewN n) fun e w' => e = .returned v ∧ Qt (w.drewN n) w') : Calls P f args (w.drewN n) fun e w'' => e = .returned v ∧ ∃ m, w'' = w.drewN m :=
  h.mono fun _ _ ⟨he, hq⟩ => ⟨he, by obtain ⟨m, rfl⟩ := hq; exact ⟨n + m, by simp [World.drewN, Nat.add_assoc]⟩⟩
theorem quiet_pure {P : Program} {f : FuncId} {args : Array Value} {w : World} {n : Nat} {v : Value}
    (h : Calls P f args (w.drewN n) fun e w' => e = .returned v ∧ w.drewN n = w') : Calls P f args (w.drewN n) fun e w'' => e = .returned v ∧ ∃ m, w'' = w.drewN m :=
  h.mono fun _ _ ⟨he, hq⟩ => ⟨he, n, hq.symm⟩

/-- a contract's Bool, written otherwise -/
theorem asB {P : Program} {f : FuncId} {args : Array Value} {w : World} {b c : Bool} {R : World → Prop} (e : b = c)
    (h : Calls P f args w fun e w' => e = .returned (.bool b) ∧ R w') : Calls P f args w fun e w' => e = .returned (.bool c) ∧ R w' := by subst e; exact h

theorem ret_pair {x y : Int} {p : Int × Int} (h : p = (x, y)) : Ending.returned (.tuple #[.int .i64 x, .int .i64 y]) = .returned (.tuple #[.int .i64 p.1, .int .i64 p.2]) := by rw [h]
theorem ret_int {k : IntKind} {a b : Int} (h : a = b) : Ending.returned (.int k a) = .returned (.int k b) := by rw [h]
theorem ret_bool {a b : Bool} (h : a = b) : Ending.returned (.bool a) = .returned (.bool b) := by rw [h]
theorem ret_int2 {a b c d : Int} (h : a = b) (k : c = d) : Ending.returned (.tuple #[.int .i64 a, .int .i64 c]) = .returned (.tuple #[.int .i64 b, .int .i64 d]) := by rw [h, k]

theorem ne_len {m n : Nat} (h : ((m : Int) != (n : Int)) = true) : m ≠ n := by
  rintro rfl; simp at h
theorem eq_len {m n : Nat} (h : ((m : Int) != (n : Int)) = false) : m = n := by
  have := bne_eq_false_iff_eq.1 h; omega

/-- element i of a list of integers, row i of a list of lists -/
def nth (xs : List Int) (i : Nat) : Int := xs.getD i 0
def row (m : List (List Int)) (i : Nat) : List Int := m.getD i []
def ent (m : List (List Int)) (i j : Nat) : Int := nth (row m i) j

/-- the cells of a slice of integers that is read -/
def IntsAt (w : World) (a : Option Addr) (xs : List Int) : Prop :=
  xs.length ≤ 9223372036854775807 ∧ (xs ≠ [] → ∃ b o, a = some ⟨b, o, none⟩ ∧ ∀ i, i < xs.length → w.cell? ⟨b, o + i, none⟩ = some (.int .i64 (nth xs i)))

theorem IntsAt.at {w : World} {a : Option Addr} {xs : List Int} (h : IntsAt w a xs) {i : Nat} (hi : i < xs.length) :
    ∃ b o, a = some ⟨b, o, none⟩ ∧ ∀ i, i < xs.length → w.cell? ⟨b, o + i, none⟩ = some (.int .i64 (nth xs i)) := by
  refine h.2 ?_; rintro rfl; simp at hi
theorem IntsAt.len {w : World} {a : Option Addr} {xs : List Int} (h : IntsAt w a xs) : xs.length ≤ 9223372036854775807 := h.1
theorem IntsAt.nil (w : World) (a : Option Addr) : IntsAt w a [] := ⟨by simp, fun h => absurd rfl h⟩
theorem IntsAt.mono {w w' : World} {a : Option Addr} {xs : List Int} (h : IntsAt w a xs) (e : Ext w w') : IntsAt w' a xs :=
  ⟨h.1, fun hn => by obtain ⟨b, o, ha, hc⟩ := h.2 hn; exact ⟨b, o, ha, fun i hi => e.cell (hc i hi)⟩⟩
theorem IntsAt.qt {w w' : World} {a : Option Addr} {xs : List Int} (h : IntsAt w a xs) (e : Qt w w') : IntsAt w' a xs := h.mono e.ext

/-- a slice of slices of integers that is read -/
def MatAt (w : World) (a : Option Addr) (m : List (List Int)) : Prop :=
  m.length ≤ 9223372036854775807 ∧ (m ≠ [] → ∃ b o, a = some ⟨b, o, none⟩ ∧ ∀ i, i < m.length → ∃ ai ci, w.cell? ⟨b, o + i, none⟩ = some (.slice ai (row m i).length ci) ∧ IntsAt w ai (row m i) ∧ (ai = none → ci = 0))

theorem MatAt.at {w : World} {a : Option Addr} {m : List (List Int)} (h : MatAt w a m) {i : Nat} (hi : i < m.length) :
    ∃ b o, a = some ⟨b, o, none⟩ ∧ ∀ i, i < m.length → ∃ ai ci, w.cell? ⟨b, o + i, none⟩ = some (.slice ai (row m i).length ci) ∧ IntsAt w ai (row m i) ∧ (ai = none → ci = 0) := by
  refine h.2 ?_; rintro rfl; simp at hi
theorem MatAt.len {w : World} {a : Option Addr} {m : List (List Int)} (h : MatAt w a m) : m.length ≤ 9223372036854775807 := h.1
theorem MatAt.nil (w : World) (a : Option Addr) : MatAt w a [] := ⟨by simp, fun h => absurd rfl h⟩
theorem MatAt.mono {w w' : World} {a : Option Addr} {m : List (List Int)} (h : MatAt w a m) (e : Ext w w') : MatAt w' a m :=
  ⟨h.1, fun hn => by
    obtain ⟨b, o, ha, hc⟩ := h.2 hn
    exact ⟨b, o, ha, fun i hi => by obtain ⟨ai, ci, h1, h2, h3⟩ := hc i hi; exact ⟨ai, ci, e.cell h1, h2.mono e, h3⟩⟩⟩
theorem MatAt.qt {w w' : World} {a : Option Addr} {m : List (List Int)} (h : MatAt w a m) (e : Qt w w') : MatAt w' a m := h.mono e.ext

theorem nth_of_lt {xs : List Int} {i : Nat} (h : i < xs.length) : nth xs i = xs[i] := by simp [nth, h]
theorem list_ext_nth {xs ys : List Int} (hl : xs.length = ys.length) (h : ∀ i, i < xs.length → nth xs i = nth ys i) : xs = ys := by
  apply List.ext_getElem hl
  intro i h1 h2
  have := h i h1
  rwa [nth_of_lt h1, nth_of_lt h2] at this
theorem row_of_lt {m : List (List Int)} {i : Nat} (h : i < m.length) : row m i = m[i] := by simp [row, h]
theorem list_ext_row {xs ys : List (List Int)} (hl : xs.length = ys.length) (h : ∀ i, i < xs.length → row xs i = row ys i) : xs = ys := by
  apply List.ext_getElem hl
  intro i h1 h2
  have := h i h1
  rwa [row_of_lt h1, row_of_lt h2] at this

theorem i64_bd {a : Int} (h : (Lit.int .i64 a).wf = true) : -9223372036854775808 ≤ a ∧ a ≤ 9223372036854775807 := by
  have := bounds_i64 h; omega

/-- every element fits an int64 -/
def IBd (xs : List Int) : Prop := ∀ i, i < xs.length → -9223372036854775808 ≤ nth xs i ∧ nth xs i ≤ 9223372036854775807
theorem IBd.nil : IBd [] := fun i hi => absurd hi (Nat.not_lt_zero _)
def MBd (m : List (List Int)) : Prop := ∀ i, i < m.length → IBd (row m i)

theorem ints_of_row {w : World} {x : Addr} {len cap : Nat} {zs : List Int} (hl : len ≤ cap) (hm : cap ≤ maxLen) (hz : zs.length = cap)
    (hcell : ∀ i, i < zs.length → w.cell? (x.add i) = some (.int .i64 (zs.getD i 0))) (hwz : ∀ n ∈ zs, (Lit.int .i64 n).wf = true) :
    ∃ xs : List Int, xs.length = len ∧ IntsAt w (some x) xs ∧ IBd xs := by
  have hnth : ∀ i, i < len → nth (zs.take len) i = zs.getD i 0 := fun i hi => by
    simp [nth, hi]
  refine ⟨zs.take len, by simp; omega, ⟨?_, fun hne => ?_⟩, fun i hi => ?_⟩
  · have : maxLen = 9223372036854775807 := rfl
    simp; omega
  · have h0 : 0 < len := by
      rcases Nat.eq_zero_or_pos len with h | h
      · subst h; simp at hne
      · exact h
    obtain ⟨b, o, sp⟩ := x
    have hsp : sp = none := by
      have := hcell 0 (by omega)
      cases sp with
      | none => rfl
      | some z => exfalso; simp [World.cell?, Addr.add] at this; split at this <;> simp_all
    subst hsp
    refine ⟨b, o, rfl, fun i hi => ?_⟩
    have hi' : i < len := by simp at hi; omega
    rw [hnth i hi']
    have h := hcell i (by omega)
    rw [Addr.add_lit] at h
    exact h
  · have hi' : i < len := by simp at hi; omega
    rw [hnth i hi']
    have hlt : i < zs.length := by omega
    have : zs.getD i 0 ∈ zs := by simp [hlt]
    exact i64_bd (hwz _ this)

end Go.Proofs.Ytljchmkoafahgaa
