/- Several texts in one: B P1 P2 P3 P4 P5 P6 P7. -/
import Derived.WalkKit
import Derived.WalkSpells
import Derived.WalkLawsBesides
import Derived.Deep.QuietTactic
import Derived.BigQuiet
import Derived.Lib.Hide
import Derived.Deep.Light
import Derived.Deep.LoopGhost
import Derived.Deep.OwnRows
import Derived.StillTailTactics
import Derived.Deep.RegionHeld3
import Derived.OpenShut
/- Plain words for worlds and for slices of integers that are read. No condition: definitions and lemmas. -/
namespace Go.Proofs.YtkipbfjkcdccjaaDoor
set_option linter.unusedVariables false
open Go.RowKit

/-- only draws lie between -/
def Qt (w w' : World) : Prop := ∃ n, w' = w.drewN n
theorem Qt.refl (w : World) : Qt w w := ⟨0, rfl⟩
theorem Qt.trans {a b c : World} (h : Qt a b) (k : Qt b c) : Qt a c := by
  obtain ⟨n, rfl⟩ := h; obtain ⟨m, rfl⟩ := k; exact ⟨n + m, by simp [World.drewN, Nat.add_assoc]⟩
theorem Qt.drewN {a b : World} (h : Qt a b) (n : Nat) : Qt a (b.drewN n) := h.trans ⟨n, rfl⟩
theorem Qt.drew {a b : World} (h : Qt a b) : Qt a b.drew := h.trans ⟨1, rfl⟩
theorem Qt.cell {w w' : World} (h : Qt w w') (a : Addr) : w'.cell? a = w.cell? a := by obtain ⟨n, rfl⟩ := h; rfl
theorem Qt.frozen {w w' : World} (h : Qt w w') (a : Addr) : w'.frozen? a = w.frozen? a := by obtain ⟨n, rfl⟩ := h; rfl
theorem Qt.heap {w w' : World} (h : Qt w w') : w'.heap = w.heap := by obtain ⟨n, rfl⟩ := h; rfl
theorem Qt.size {w w' : World} (h : Qt w w') : w'.heap.size = w.heap.size := by rw [h.heap]
theorem Qt.below {w w' : World} (h : Qt w w') (B : Nat) : Below B w w' := by
  obtain ⟨n, rfl⟩ := h; exact ⟨rfl, rfl, rfl, Nat.le_refl _, fun _ _ => rfl⟩

/-- nothing that was there has changed -/
def Ext (w w' : World) : Prop := Below w.heap.size w w'
theorem Ext.refl (w : World) : Ext w w := Below.refl _ _
theorem Ext.below {w w' : World} (h : Ext w w') : Below w.heap.size w w' := h
theorem Ext.size {w w' : World} (h : Ext w w') : w.heap.size ≤ w'.heap.size := Below.size h
theorem Ext.trans {a b c : World} (h : Ext a b) (k : Ext b c) : Ext a c := Below.trans h (Below.mono k h.size)
theorem Qt.ext {w w' : World} (h : Qt w w') : Ext w w' := h.below _
theorem Ext.qt {a b c : World} (h : Ext a b) (k : Qt b c) : Ext a c := h.trans k.ext
theorem Ext.drew {a b : World} (h : Ext a b) : Ext a b.drew := h.qt ⟨1, rfl⟩
theorem Ext.drewN {a b : World} (h : Ext a b) (n : Nat) : Ext a (b.drewN n) := h.qt ⟨n, rfl⟩
theorem Ext.alloc {a b : World} (h : Ext a b) (o : Obj) : Ext a (b.alloc o) := Below.alloc h h.size o
theorem Ext.cell {w w' : World} (h : Ext w w') {a : Addr} {v : Value} (hv : w.cell? a = some v) : w'.cell? a = some v := by
  rw [Below.cell h (World.block_lt_of_cell? _ _ hv)]; exact hv
theorem Ext.set {a b : World} (h : Ext a b) {p : Addr} (hp : a.heap.size ≤ p.block) (v : Value) : Ext a (b.setCell p v) := Below.setCell h hp v

/-- two cells of a block that may be written -/
structure Box2 (w : World) (b : Nat) (x y : Value) : Prop where
  c0 : w.cell? ⟨b, 0, none⟩ = some x
  c1 : w.cell? ⟨b, 1, none⟩ = some y
  f0 : w.frozen? ⟨b, 0, none⟩ = false
  f1 : w.frozen? ⟨b, 1, none⟩ = false
theorem Ext.frozen {w w' : World} (h : Ext w w') {a : Addr} (ha : a.block < w.heap.size) : w'.frozen? a = w.frozen? a := Below.frozen h ha
theorem Box2.lt {w : World} {b : Nat} {x y : Value} (h : Box2 w b x y) : b < w.heap.size := World.block_lt_of_cell? w ⟨b, 0, none⟩ h.c0
theorem Box2.ext {w w' : World} {b : Nat} {x y : Value} (h : Box2 w b x y) (e : Ext w w') : Box2 w' b x y :=
  ⟨e.cell h.c0, e.cell h.c1, by rw [e.frozen (a := ⟨b, 0, none⟩) h.lt]; exact h.f0, by rw [e.frozen (a := ⟨b, 1, none⟩) h.lt]; exact h.f1⟩
theorem Box2.qt {w w' : World} {b : Nat} {x y : Value} (h : Box2 w b x y) (e : Qt w w') : Box2 w' b x y := h.ext e.ext
/-- a struct of two fields is laid into new memory -/
theorem alloc2_facts (w : World) (x y : Value) (t : TypeId) : ∃ W, w.alloc (.cells #[x, y] t) = W ∧ Box2 W w.heap.size x y ∧ W.heap.size = w.heap.size + 1 ∧ Ext w W :=
  ⟨_, rfl, ⟨by simp, by simp, by simp, by simp⟩, by simp, (Ext.refl w).alloc _⟩

theorem keepR2 {W w' : World} {p q r s : Addr} {x y z t : Value} (c0 : W.cell? p = some x) (c1 : W.cell? q = some y) (d0 : W.cell? r = some z) (d1 : W.cell? s = some t) (h : Ext W w') :
    Ext W w' ∧ w'.cell? p = some x ∧ w'.cell? q = some y ∧ w'.cell? r = some z ∧ w'.cell? s = some t := ⟨h, h.cell c0, h.cell c1, h.cell d0, h.cell d1⟩

theorem quiet_call {P : Program} {f : FuncId} {args : Array Value} {w : World} {n : Nat} {v : Value}
    (h : Calls P f args (w.drewN n) fun e w' => e = .returned v ∧ Qt (w.drewN n) w') : Calls P f args (w.drewN n) fun e w'' => e = .returned v ∧ ∃ m, w'' = w.drewN m :=
  h.mono fun _ _ ⟨he, hq⟩ => ⟨he, by obtain ⟨m, rfl⟩ := hq; exact ⟨n + m, by simp [World.drewN, Nat.add_assoc]⟩⟩
theorem quiet_pure {P : Program} {f : FuncId} {args : Array Value} {w : World} {n : Nat} {v : Value}
    (h : Calls P f args (w.drewN n) fun e w' => e = .returned v ∧ w.drewN n = w') : Calls P f args (w.drewN n) fun e w'' => e = .returned v ∧ ∃ m, w'' = w.drewN m :=
  h.mono fun _ _ ⟨he, hq⟩ => ⟨he, n, hq.symm⟩

/-- a contract's Bool, written otherwise -/
theorem asB {P : Program} {f : FuncId} {args : Array Value} {w : World} {b c : Bool} {R : World → Prop} (e : b = c)
    (h : Calls P f args w fun e w' => e = .returned (.bool b) ∧ R w') : Calls P f args w fun e w' => e = .returned (.bool c) ∧ R w' := by subst e; exact h

theorem ret_pair {x y : Int} {p : Int × Int} (h : p = (x, y)) : Ending.returned (.tuple #[.int .i64 x, .int .i64 y]) = .returned (.tuple #[.int .i64 p.1, .int .i64 p.2]) := by rw [h]
theorem ret_int {k : IntKind} {a b : Int} (h : a = b) : Ending.returned (.int k a) = .returned (.int k b) := by rw [h]
theorem ret_bool {a b : Bool} (h : a = b) : Ending.returned (.bool a) = .returned (.bool b) := by rw [h]
theorem ret_int2 {a b c d : Int} (h : a = b) (k : c = d) : Ending.returned (.tuple #[.int .i64 a, .int .i64 c]) = .returned (.tuple #[.int .i64 b, .int .i64 d]) := by rw [h, k]

theorem ne_len {m n : Nat} (h : ((m : Int) != (n : Int)) = true) : m ≠ n := by
  rintro rfl; simp at h
theorem eq_len {m n : Nat} (h : ((m : Int) != (n : Int)) = false) : m = n := by
  have := bne_eq_false_iff_eq.1 h; omega

/-- element i of a list of integers, row i of a list of lists -/
def nth (xs : List Int) (i : Nat) : Int := xs.getD i 0
def row (m : List (List Int)) (i : Nat) : List Int := m.getD i []
def ent (m : List (List Int)) (i j : Nat) : Int := nth (row m i) j

/-- the cells of a slice of integers that is read -/
def IntsAt (w : World) (a : Option Addr) (xs : List Int) : Prop :=
  xs.length ≤ 9223372036854775807 ∧ (xs ≠ [] → ∃ b o, a = some ⟨b, o, none⟩ ∧ ∀ i, i < xs.length → w.cell? ⟨b, o + i, none⟩ = some (.int .i64 (nth xs i)))

theorem IntsAt.at {w : World} {a : Option Addr} {xs : List Int} (h : IntsAt w a xs) {i : Nat} (hi : i < xs.length) :
    ∃ b o, a = some ⟨b, o, none⟩ ∧ ∀ i, i < xs.length → w.cell? ⟨b, o + i, none⟩ = some (.int .i64 (nth xs i)) := by
  refine h.2 ?_; rintro rfl; simp at hi
theorem IntsAt.len {w : World} {a : Option Addr} {xs : List Int} (h : IntsAt w a xs) : xs.length ≤ 9223372036854775807 := h.1
theorem IntsAt.nil (w : World) (a : Option Addr) : IntsAt w a [] := ⟨by simp, fun h => absurd rfl h⟩
theorem IntsAt.mono {w w' : World} {a : Option Addr} {xs : List Int} (h : IntsAt w a xs) (e : Ext w w') : IntsAt w' a xs :=
  ⟨h.1, fun hn => by obtain ⟨b, o, ha, hc⟩ := h.2 hn; exact ⟨b, o, ha, fun i hi => e.cell (hc i hi)⟩⟩
theorem IntsAt.qt {w w' : World} {a : Option Addr} {xs : List Int} (h : IntsAt w a xs) (e : Qt w w') : IntsAt w' a xs := h.mono e.ext

/-- a slice of slices of integers that is read -/
def MatAt (w : World) (a : Option Addr) (m : List (List Int)) : Prop :=
  m.length ≤ 9223372036854775807 ∧ (m ≠ [] → ∃ b o, a = some ⟨b, o, none⟩ ∧ ∀ i, i < m.length → ∃ ai ci, w.cell? ⟨b, o + i, none⟩ = some (.slice ai (row m i).length ci) ∧ IntsAt w ai (row m i) ∧ (ai = none → ci = 0))

theorem MatAt.at {w : World} {a : Option Addr} {m : List (List Int)} (h : MatAt w a m) {i : Nat} (hi : i < m.length) :
    ∃ b o, a = some ⟨b, o, none⟩ ∧ ∀ i, i < m.length → ∃ ai ci, w.cell? ⟨b, o + i, none⟩ = some (.slice ai (row m i).length ci) ∧ IntsAt w ai (row m i) ∧ (ai = none → ci = 0) := by
  refine h.2 ?_; rintro rfl; simp at hi
theorem MatAt.len {w : World} {a : Option Addr} {m : List (List Int)} (h : MatAt w a m) : m.length ≤ 9223372036854775807 := h.1
theorem MatAt.nil (w : World) (a : Option Addr) : MatAt w a [] := ⟨by simp, fun h => absurd rfl h⟩
theorem MatAt.mono {w w' : World} {a : Option Addr} {m : List (List Int)} (h : MatAt w a m) (e : Ext w w') : MatAt w' a m :=
  ⟨h.1, fun hn => by
    obtain ⟨b, o, ha, hc⟩ := h.2 hn
    exact ⟨b, o, ha, fun i hi => by obtain ⟨ai, ci, h1, h2, h3⟩ := hc i hi; exact ⟨ai, ci, e.cell h1, h2.mono e, h3⟩⟩⟩
theorem MatAt.qt {w w' : World} {a : Option Addr} {m : List (List Int)} (h : MatAt w a m) (e : Qt w w') : MatAt w' a m := h.mono e.ext

theorem nth_of_lt {xs : List Int} {i : Nat} (h : i < xs.length) : nth xs i = xs[i] := by simp [nth, h]
theorem list_ext_nth {xs ys : List Int} (hl : xs.length = ys.length) (h : ∀ i, i < xs.length → nth xs i = nth ys i) : xs = ys := by
  apply List.ext_getElem hl
  intro i h1 h2
  have := h i h1
  rwa [nth_of_lt h1, nth_of_lt h2] at this
theorem row_of_lt {m : List (List Int)} {i : Nat} (h : i < m.length) : row m i = m[i] := by simp [row, h]
theorem list_ext_row {xs ys : List (List Int)} (hl : xs.length = ys.length) (h : ∀ i, i < xs.length → row xs i = row ys i) : xs = ys := by
  apply List.ext_getElem hl
  intro i h1 h2
  have := h i h1
  rwa [row_of_lt h1, row_of_lt h2] at this

theorem i64_bd {a : Int} (h : (Lit.int .i64 a).wf = true) : -9223372036854775808 ≤ a ∧ a ≤ 9223372036854775807 := by
  have := bounds_i64 h; omega

/-- every element fits an int64 -/
def IBd (xs : List Int) : Prop := ∀ i, i < xs.length → -9223372036854775808 ≤ nth xs i ∧ nth xs i ≤ 9223372036854775807
theorem IBd.nil : IBd [] := fun i hi => absurd hi (Nat.not_lt_zero _)
def MBd (m : List (List Int)) : Prop := ∀ i, i < m.length → IBd (row m i)

theorem ints_of_row {w : World} {x : Addr} {len cap : Nat} {zs : List Int} (hl : len ≤ cap) (hm : cap ≤ maxLen) (hz : zs.length = cap)
    (hcell : ∀ i, i < zs.length → w.cell? (x.add i) = some (.int .i64 (zs.getD i 0))) (hwz : ∀ n ∈ zs, (Lit.int .i64 n).wf = true) :
    ∃ xs : List Int, xs.length = len ∧ IntsAt w (some x) xs ∧ IBd xs := by
  have hnth : ∀ i, i < len → nth (zs.take len) i = zs.getD i 0 := fun i hi => by
    simp [nth, hi]
  refine ⟨zs.take len, by simp; omega, ⟨?_, fun hne => ?_⟩, fun i hi => ?_⟩
  · have : maxLen = 9223372036854775807 := rfl
    simp; omega
  · have h0 : 0 < len := by
      rcases Nat.eq_zero_or_pos len with h | h
      · subst h; simp at hne
      · exact h
    obtain ⟨b, o, sp⟩ := x
    have hsp : sp = none := by
      have := hcell 0 (by omega)
      cases sp with
      | none => rfl
      | some z => exfalso; simp [World.cell?, Addr.add] at this; split at this <;> simp_all
    subst hsp
    refine ⟨b, o, rfl, fun i hi => ?_⟩
    have hi' : i < len := by simp at hi; omega
    rw [hnth i hi']
    have h := hcell i (by omega)
    rw [Addr.add_lit] at h
    exact h
  · have hi' : i < len := by simp at hi; omega
    rw [hnth i hi']
    have hlt : i < zs.length := by omega
    have : zs.getD i 0 ∈ zs := by simp [hlt]
    exact i64_bd (hwz _ this)

end Go.Proofs.YtkipbfjkcdccjaaDoor

/- Plain arithmetic of values and ratios: definitions and lemmas, no program. -/
namespace Go.Proofs.YtkipbfjkcdccjaaDoor
set_option linter.unusedVariables false

def inR (n lo hi : Int) : Bool := decide (lo ≤ n) && decide (n ≤ hi)
theorem inR_iff {n lo hi : Int} : inR n lo hi = true ↔ lo ≤ n ∧ n ≤ hi := by simp [inR]
theorem inR_not {n lo hi : Int} : inR n lo hi = false ↔ n < lo ∨ hi < n := by simp [inR]; omega
def fin (n : Int) : Bool := inR n (-1000000) 1000000
theorem fin_iff {n : Int} : fin n = true ↔ -1000000 ≤ n ∧ n ≤ 1000000 := inR_iff
theorem fin_not {n : Int} : fin n = false ↔ n < -1000000 ∨ 1000000 < n := inR_not
/-- Bottom -/
def BOT : Int := -1000000000000000
theorem BOT_eq : BOT = -1000000000000000 := rfl
def isVal (a : Int) : Bool := a == -1000000000000000 || fin a
theorem isVal_iff {a : Int} : isVal a = true ↔ a = -1000000000000000 ∨ (-1000000 ≤ a ∧ a ≤ 1000000) := by simp [isVal, fin_iff]
theorem isVal_bd {a : Int} (h : isVal a = true) : -1000000000000000 ≤ a ∧ a ≤ 1000000 := by
  rcases isVal_iff.1 h with rfl | h <;> omega

/-- the product of two values -/
def times (a b : Int) : Int := if a = -1000000000000000 ∨ b = -1000000000000000 then -1000000000000000 else a + b
/-- a number if it is a value, and the code -/
def chkV (n : Int) : Int × Int := if isVal n then (n, 0) else (0, 3)
def absI (n : Int) : Int := if n < 0 then -n else n
theorem absI_nonneg (n : Int) : 0 ≤ absI n := by unfold absI; split <;> omega
theorem absI_bd (n A : Int) (h : -A ≤ n ∧ n ≤ A) : 0 ≤ absI n ∧ absI n ≤ A := by unfold absI; split <;> omega
theorem absI_natAbs (n : Int) : absI n = (n.natAbs : Int) := by unfold absI; split <;> omega
/-- the greatest common divisor, of numbers of at least 0 -/
def gcdI (a b : Int) : Int := (Int.gcd a b : Int)
theorem gcdI_nonneg (a b : Int) : 0 ≤ gcdI a b := by unfold gcdI; omega
theorem gcdI_zero {a b : Int} (ha : 0 ≤ a) (hb : b ≤ 0) (hb' : 0 ≤ b) : gcdI a b = a := by
  obtain rfl : b = 0 := by omega
  simp [gcdI]; omega
theorem gcdI_step {a b : Int} (ha : 0 ≤ a) (hb : 0 < b) : gcdI b (a % b) = gcdI a b := by
  obtain ⟨x, rfl⟩ := Int.eq_ofNat_of_zero_le ha
  obtain ⟨y, rfl⟩ := Int.eq_ofNat_of_zero_le (Int.le_of_lt hb)
  unfold gcdI
  rw [← Int.natCast_emod]
  simp only [Int.gcd, Int.natAbs_natCast]
  rw [Nat.gcd_comm x y, Nat.gcd_rec y x, Nat.gcd_comm]
theorem gcdI_le {a b : Int} (hb : 0 < b) : 0 < gcdI a b ∧ gcdI a b ≤ b := by
  unfold gcdI
  have h1 : 0 < Int.gcd a b := Int.gcd_pos_of_ne_zero_right a (by omega)
  have h2 : (Int.gcd a b : Int) ∣ b := Int.gcd_dvd_right ..
  exact ⟨by omega, Int.le_of_dvd hb h2⟩
theorem gcdI_negl (a b : Int) : gcdI (-a) b = gcdI a b := by unfold gcdI; simp
theorem gcdI_negr (a b : Int) : gcdI a (-b) = gcdI a b := by unfold gcdI; simp
theorem gcdI_abs (a b : Int) : gcdI (absI a) b = gcdI a b := by
  unfold gcdI; rw [absI_natAbs]; simp [Int.gcd]


/-- the ratio of two numbers in lowest terms; the second is not 0 -/
def sgnR (num den : Int) : Int × Int := if den < 0 then (-num, -den) else (num, den)
def ratOf (num den : Int) : Int × Int :=
  ((sgnR num den).1.tdiv (gcdI (sgnR num den).1 (sgnR num den).2), (sgnR num den).2.tdiv (gcdI (sgnR num den).1 (sgnR num den).2))
/-- a ratio is valid -/
def isRat (r : Int × Int) : Bool := fin r.1 && inR r.2 1 1000000 && gcdI r.1 r.2 == 1
/-- two ratios compared by cross products -/
def cmpI (x y : Int) : Int := if x < y then -1 else if y < x then 1 else 0
def cmpR (a b : Int × Int) : Int := cmpI (a.1 * b.2) (b.1 * a.2)
def chkR (r : Int × Int) : (Int × Int) × Int := if isRat r then (r, 0) else ((0, 0), 3)

theorem mul_bd {a b A B : Int} (ha : -A ≤ a ∧ a ≤ A) (hb : -B ≤ b ∧ b ≤ B) : -(A * B) ≤ a * b ∧ a * b ≤ A * B := by
  have h1 : a.natAbs ≤ A.natAbs := by omega
  have h2 : b.natAbs ≤ B.natAbs := by omega
  have h3 : (a * b).natAbs ≤ (A * B).natAbs := by rw [Int.natAbs_mul, Int.natAbs_mul]; exact Nat.mul_le_mul h1 h2
  have h4 : 0 ≤ A * B := Int.mul_nonneg (by omega) (by omega)
  omega
theorem tdiv_bd {a b A : Int} (ha : -A ≤ a ∧ a ≤ A) : -A ≤ a.tdiv b ∧ a.tdiv b ≤ A := by
  have h1 : (a.tdiv b).natAbs ≤ a.natAbs := by
    rw [Int.natAbs_tdiv]; exact Nat.div_le_self ..
  omega

/-- what the exported functions over numbers return -/
def quotV (a b : Int) : Int × Int :=
  if isVal a && isVal b then (if b = -1000000000000000 then (0, 5) else if a = -1000000000000000 then (-1000000000000000, 0) else chkV (a - b)) else (0, 1)
def prodV (a b : Int) : Int × Int := if isVal a && isVal b then chkV (times a b) else (0, 1)
def powV (a n : Int) : Int × Int :=
  if isVal a then (if inR n 0 1000000 then (if n = 0 then (0, 0) else if a = -1000000000000000 then (-1000000000000000, 0) else chkV (a * n)) else (0, 2)) else (0, 1)
/-- a ratio and a code -/
def mkRat (num den : Int) : (Int × Int) × Int := if fin num && fin den then (if den = 0 then ((0, 0), 5) else (ratOf num den, 0)) else ((0, 0), 1)
def cmpRV (a b : Int × Int) : Int × Int := if isRat a && isRat b then (cmpR a b, 0) else (0, 1)
theorem isRat_bd {a b : Int} (h : isRat (a, b) = true) : (-1000000000 ≤ a ∧ a ≤ 1000000000) ∧ (-1000000000 ≤ b ∧ b ≤ 1000000000) := by
  simp [isRat, fin_iff, inR_iff] at h; omega
theorem chkV_fin {n : Int} (h : -1000000000000000 < n) : chkV n = if fin n then (n, 0) else (0, 3) := by
  unfold chkV isVal
  have : (n == -1000000000000000) = false := by rw [beq_eq_false_iff_ne]; omega
  rw [this]; simp

end Go.Proofs.YtkipbfjkcdccjaaDoor

/- Plain lists of lists: lengths, marks. Definitions and lemmas, no program. -/
namespace Go.Proofs.YtkipbfjkcdccjaaDoor
set_option linter.unusedVariables false

/-- how many numbers a list of lists holds -/
def tot : List (List Int) → Nat
  | [] => 0
  | xs :: m => xs.length + tot m
theorem tot_append (a b : List (List Int)) : tot (a ++ b) = tot a + tot b := by
  induction a with
  | nil => simp [tot]
  | cons x a ih => simp [tot, ih]; omega
theorem tot_take_succ (m : List (List Int)) (k : Nat) (h : k < m.length) : tot (m.take (k + 1)) = tot (m.take k) + (row m k).length := by
  rw [List.take_succ_eq_append_getElem h, tot_append, row_of_lt h]; simp [tot]
theorem tot_take_le (m : List (List Int)) (k : Nat) : tot (m.take k) ≤ tot m := by
  have := tot_append (m.take k) (m.drop k)
  rw [List.take_append_drop] at this; omega
theorem len_le_tot (m : List (List Int)) (k : Nat) (h : k < m.length) : (row m k).length ≤ tot m := by
  have h1 := tot_take_succ m k h
  have h2 := tot_take_le m (k + 1)
  omega

/-- the numbers k, k + 1 .. -/
def runI (n : Nat) (k : Int) : List Int := (List.range n).map fun j : Nat => k + (j : Int)
theorem runI_len (n : Nat) (k : Int) : (runI n k).length = n := by simp [runI]
theorem runI_nth {n j : Nat} {k : Int} (h : j < n) : nth (runI n k) j = k + j := by simp [nth, runI, h]
/-- a list of lists, its places numbered from k on -/
def markM (m : List (List Int)) (k : Int) : List (List Int) := (List.range m.length).map fun i => runI (row m i).length (k + tot (m.take i))
theorem markM_len (m : List (List Int)) (k : Int) : (markM m k).length = m.length := by simp [markM]
theorem markM_row {m : List (List Int)} {k : Int} {i : Nat} (h : i < m.length) : row (markM m k) i = runI (row m i).length (k + tot (m.take i)) := by simp [row, markM, h]
theorem tot_congr : ∀ (a b : List (List Int)), a.length = b.length → (∀ i, i < a.length → (row a i).length = (row b i).length) → tot a = tot b
  | [], [], _, _ => rfl
  | x :: a, y :: b, h, e => by
    have h0 := e 0 (by simp)
    simp [row] at h0
    simp [tot, h0, tot_congr a b (by simpa using h) (fun i hi => by have := e (i + 1) (by simpa using hi); simpa [row] using this)]
theorem row_take {m : List (List Int)} {i k : Nat} (h : i < k) : row (m.take k) i = row m i := by
  simp [row, List.getD_eq_getElem?_getD, h]
theorem markM_tot (m : List (List Int)) (k : Int) (i : Nat) : tot ((markM m k).take i) = tot (m.take i) := by
  refine tot_congr _ _ (by simp [markM_len]) fun j hj => ?_
  simp [markM_len] at hj
  rw [row_take (by omega), row_take (by omega), markM_row (by omega), runI_len]

/-- all numbers are values; all are finite ones -/
def allV (xs : List Int) : Bool := xs.all isVal
def allF (xs : List Int) : Bool := xs.all fin
theorem allV_iff {xs : List Int} : allV xs = true ↔ ∀ i, i < xs.length → isVal (nth xs i) = true := by
  unfold allV
  rw [List.all_eq_true]
  constructor
  · intro h i hi
    rw [nth_of_lt hi]; exact h _ (List.getElem_mem hi)
  · intro h x hx
    obtain ⟨i, hi, rfl⟩ := List.getElem_of_mem hx
    have := h i hi
    rwa [nth_of_lt hi] at this
theorem allF_iff {xs : List Int} : allF xs = true ↔ ∀ i, i < xs.length → fin (nth xs i) = true := by
  unfold allF
  rw [List.all_eq_true]
  constructor
  · intro h i hi
    rw [nth_of_lt hi]; exact h _ (List.getElem_mem hi)
  · intro h x hx
    obtain ⟨i, hi, rfl⟩ := List.getElem_of_mem hx
    have := h i hi
    rwa [nth_of_lt hi] at this
theorem allV_no {xs : List Int} {i : Nat} (hi : i < xs.length) (h : isVal (nth xs i) = false) : allV xs = false := by
  rw [Bool.eq_false_iff]; intro e; rw [allV_iff.1 e i hi] at h; simp at h
theorem allF_no {xs : List Int} {i : Nat} (hi : i < xs.length) (h : fin (nth xs i) = false) : allF xs = false := by
  rw [Bool.eq_false_iff]; intro e; rw [allF_iff.1 e i hi] at h; simp at h
/-- the greatest of some values -/
def maxI (a b : Int) : Int := if a < b then b else a
def sumI (xs : List Int) : Int := xs.foldl max (-1000000000000000)
theorem sumI_snoc (xs : List Int) (k : Nat) (h : k < xs.length) : sumI (xs.take (k + 1)) = max (sumI (xs.take k)) (nth xs k) := by
  unfold sumI
  rw [List.take_succ_eq_append_getElem h, List.foldl_append, nth_of_lt h]; rfl
/-- a list of lists is a matrix; a square one -/
def rowOk (n : Nat) (r : List Int) : Bool := r.length == n && allV r
def isMat (m : List (List Int)) : Bool := inR m.length 1 10 && inR (row m 0).length 1 10 && m.all (rowOk (row m 0).length)
def isSq (m : List (List Int)) : Bool := isMat m && m.length == (row m 0).length
def isVec (x : List Int) : Bool := inR x.length 1 10 && allV x
theorem all_iff_row {m : List (List Int)} {p : List Int → Bool} : m.all p = true ↔ ∀ i, i < m.length → p (row m i) = true := by
  rw [List.all_eq_true]
  constructor
  · intro h i hi
    rw [row_of_lt hi]; exact h _ (List.getElem_mem hi)
  · intro h x hx
    obtain ⟨i, hi, rfl⟩ := List.getElem_of_mem hx
    have := h i hi
    rwa [row_of_lt hi] at this
theorem all_no_row {m : List (List Int)} {p : List Int → Bool} {i : Nat} (hi : i < m.length) (h : p (row m i) = false) : m.all p = false := by
  rw [Bool.eq_false_iff]; intro e; rw [all_iff_row.1 e i hi] at h; simp at h
/-- what SumOf returns -/
def sumV (xs : List Int) : Int × Int := if 200 < xs.length then (0, 3) else if allV xs then (sumI xs, 0) else (0, 1)

/-- the matrix of m rows and n columns with the entries f -/
def mkRow (n : Nat) (f : Nat → Int) : List Int := (List.range n).map f
def mkMat (m n : Nat) (f : Nat → Nat → Int) : List (List Int) := (List.range m).map fun i => mkRow n (f i)
theorem mkRow_len (n : Nat) (f : Nat → Int) : (mkRow n f).length = n := by simp [mkRow]
theorem mkRow_nth {n j : Nat} {f : Nat → Int} (h : j < n) : nth (mkRow n f) j = f j := by simp [nth, mkRow, h]
theorem mkMat_len (m n : Nat) (f : Nat → Nat → Int) : (mkMat m n f).length = m := by simp [mkMat]
theorem mkMat_row {m n i : Nat} {f : Nat → Nat → Int} (h : i < m) : row (mkMat m n f) i = mkRow n (f i) := by simp [row, mkMat, h]
theorem mkMat_ent {m n i j : Nat} {f : Nat → Nat → Int} (hi : i < m) (hj : j < n) : ent (mkMat m n f) i j = f i j := by
  unfold ent; rw [mkMat_row hi, mkRow_nth hj]
theorem mkRow_eq {n : Nat} {f : Nat → Int} {xs : List Int} (hl : xs.length = n) (h : ∀ j, j < n → nth xs j = f j) : xs = mkRow n f :=
  list_ext_nth (by rw [mkRow_len]; exact hl) fun i hi => by rw [mkRow_nth (by omega)]; exact h i (by omega)
theorem mkMat_eq {m n : Nat} {f : Nat → Nat → Int} {M : List (List Int)} (hl : M.length = m) (hr : ∀ i, i < m → (row M i).length = n) (h : ∀ i j, i < m → j < n → ent M i j = f i j) : M = mkMat m n f :=
  list_ext_row (by rw [mkMat_len]; exact hl) fun i hi => by
    rw [mkMat_row (by omega)]; exact mkRow_eq (hr i (by omega)) fun j hj => h i j (by omega) hj
theorem mkMat_congr {m n : Nat} {f g : Nat → Nat → Int} (h : ∀ i j, i < m → j < n → f i j = g i j) : mkMat m n f = mkMat m n g :=
  mkMat_eq (mkMat_len _ _ _) (fun i hi => by rw [mkMat_row hi, mkRow_len]) fun i j hi hj => by rw [mkMat_ent hi hj, h i j hi hj]
theorem nth_set (xs : List Int) (i j : Nat) (x : Int) (hi : i < xs.length) : nth (xs.set i x) j = if j = i then x else nth xs j := by
  unfold nth
  by_cases h : j = i
  · subst h; simp [hi]
  · rw [if_neg h]; simp [List.getD_eq_getElem?_getD, Ne.symm h]

/-- entries of the unit; the greatest of n values; a product's entries -/
def unitF (i j : Nat) : Int := if i = j then 0 else -1000000000000000
def mx : Nat → (Nat → Int) → Int
  | 0, _ => -1000000000000000
  | k + 1, g => max (mx k g) (g k)
theorem mx_congr {n : Nat} {f g : Nat → Int} (h : ∀ i, i < n → f i = g i) : mx n f = mx n g := by
  induction n with
  | zero => rfl
  | succ n ih => simp only [mx]; rw [ih fun i hi => h i (by omega), h n (by omega)]
def mulE (K : Nat) (a b : List (List Int)) (i j : Nat) : Int := mx K fun k => times (ent a i k) (ent b k j)
def addE (a b : List (List Int)) (i j : Nat) : Int := max (ent a i j) (ent b i j)
/-- m rows, n columns -/
def Rect (a : List (List Int)) (m n : Nat) : Prop := a.length = m ∧ ∀ i, i < m → (row a i).length = n
theorem rect_mk (m n : Nat) (f : Nat → Nat → Int) : Rect (mkMat m n f) m n := ⟨mkMat_len _ _ _, fun i hi => by rw [mkMat_row hi, mkRow_len]⟩
theorem isMat_rect {a : List (List Int)} (h : isMat a = true) : Rect a a.length (row a 0).length ∧ 1 ≤ a.length ∧ a.length ≤ 10 ∧ 1 ≤ (row a 0).length ∧ (row a 0).length ≤ 10 := by
  unfold isMat at h
  simp only [Bool.and_eq_true, inR_iff] at h
  obtain ⟨⟨h1, h2⟩, h3⟩ := h
  refine ⟨⟨rfl, fun i hi => ?_⟩, by omega, by omega, by omega, by omega⟩
  have := all_iff_row.1 h3 i hi
  simp [rowOk] at this; exact this.1
theorem isMat_val {a : List (List Int)} (h : isMat a = true) {i j : Nat} (hi : i < a.length) (hj : j < (row a 0).length) : isVal (ent a i j) = true := by
  have hr := (isMat_rect h).1.2 i hi
  unfold isMat at h
  simp only [Bool.and_eq_true] at h
  have := all_iff_row.1 h.2 i hi
  simp only [rowOk, Bool.and_eq_true] at this
  exact allV_iff.1 this.2 j (by omega)
theorem isSq_mat {a : List (List Int)} (h : isSq a = true) : isMat a = true := by unfold isSq at h; simp at h; exact h.1
theorem isSq_rect {a : List (List Int)} (h : isSq a = true) : Rect a a.length a.length ∧ 1 ≤ a.length ∧ a.length ≤ 10 := by
  have h0 := isMat_rect (isSq_mat h)
  unfold isSq at h
  simp at h
  obtain ⟨h1, h2, h3, _⟩ := h0
  exact ⟨⟨rfl, fun i hi => by rw [h1.2 i hi]; exact h.2.symm⟩, h2, h3⟩
theorem isSq_val {a : List (List Int)} (h : isSq a = true) {i j : Nat} (hi : i < a.length) (hj : j < a.length) : isVal (ent a i j) = true := by
  have := isSq_rect h
  exact isMat_val (isSq_mat h) hi (by rw [this.1.2 0 (by omega)]; exact hj)

def rowBad (n : Nat) (r : List Int) : Bool := r.length != n || !allV r
theorem rowBad_ok (n : Nat) (r : List Int) : rowBad n r = !rowOk n r := by
  unfold rowBad rowOk; simp [bne]
theorem any_bad (m : List (List Int)) (n : Nat) : m.any (rowBad n) = !m.all (rowOk n) := by
  rw [List.all_eq_not_any_not]; simp; congr 1; funext r; exact rowBad_ok n r
/-- all entries are values -/
def allM (m : List (List Int)) : Bool := m.all allV
theorem any_iff_row {m : List (List Int)} {p : List Int → Bool} {i : Nat} (hi : i < m.length) (h : p (row m i) = true) : m.any p = true := by
  rw [List.any_eq_true]; rw [row_of_lt hi] at h; exact ⟨_, List.getElem_mem hi, h⟩
theorem any_no_row {m : List (List Int)} {p : List Int → Bool} (h : ∀ i, i < m.length → p (row m i) = false) : m.any p = false := by
  rw [Bool.eq_false_iff]; intro e
  rw [List.any_eq_true] at e
  obtain ⟨x, hx, hp⟩ := e
  obtain ⟨i, hi, rfl⟩ := List.getElem_of_mem hx
  have := h i hi
  rw [row_of_lt hi] at this
  rw [this] at hp; simp at hp

end Go.Proofs.YtkipbfjkcdccjaaDoor

/- Plain lists: matrices built row by row. -/
namespace Go.Proofs.YtkipbfjkcdccjaaDoor
set_option linter.unusedVariables false

theorem mkRow_succ (n : Nat) (f : Nat → Int) : mkRow (n + 1) f = mkRow n f ++ [f n] := by simp [mkRow, List.range_succ]
theorem mkMat_succ (m n : Nat) (f : Nat → Nat → Int) : mkMat (m + 1) n f = mkMat m n f ++ [mkRow n (f m)] := by simp [mkMat, List.range_succ]
theorem mkRow_zero (f : Nat → Int) : mkRow 0 f = [] := rfl
theorem mkMat_zero (n : Nat) (f : Nat → Nat → Int) : mkMat 0 n f = [] := rfl
theorem row_set' (m : List (List Int)) (i j : Nat) (xs : List Int) (hi : i < m.length) : row (m.set i xs) j = if j = i then xs else row m j := by
  unfold row
  by_cases h : j = i
  · subst h; simp [hi]
  · rw [if_neg h]; simp [List.getD_eq_getElem?_getD, Ne.symm h]
theorem ent_set {m : List (List Int)} {i j : Nat} {x : Int} (hi : i < m.length) (hj : j < (row m i).length) (i' j' : Nat) :
    ent (m.set i ((row m i).set j x)) i' j' = if i' = i ∧ j' = j then x else ent m i' j' := by
  unfold ent
  rw [row_set' m i i' _ hi]
  by_cases h : i' = i
  · subst h
    rw [if_pos rfl, nth_set _ _ _ _ hj]
    by_cases h' : j' = j
    · subst h'; simp
    · simp [h']
  · simp [h]
theorem rect_set {m : List (List Int)} {i j M N : Nat} {x : Int} (h : Rect m M N) (hi : i < M) : Rect (m.set i ((row m i).set j x)) M N := by
  refine ⟨by simpa using h.1, fun k hk => ?_⟩
  rw [row_set' m i k _ (by rw [h.1]; exact hi)]
  split
  · rename_i e; subst e; simpa using h.2 k hk
  · exact h.2 k hk
theorem rect_ext {a b : List (List Int)} {m n : Nat} (ha : Rect a m n) (hb : Rect b m n) (h : ∀ i j, i < m → j < n → ent a i j = ent b i j) : a = b := by
  refine list_ext_row (by rw [ha.1, hb.1]) fun i hi => ?_
  rw [ha.1] at hi
  refine list_ext_nth (by rw [ha.2 i hi, hb.2 i hi]) fun j hj => ?_
  rw [ha.2 i hi] at hj
  exact h i j hi hj
theorem rect_eq_mk {a : List (List Int)} {m n : Nat} {f : Nat → Nat → Int} (ha : Rect a m n) (h : ∀ i j, i < m → j < n → ent a i j = f i j) : a = mkMat m n f :=
  rect_ext ha (rect_mk m n f) fun i j hi hj => by rw [mkMat_ent hi hj]; exact h i j hi hj

end Go.Proofs.YtkipbfjkcdccjaaDoor

/- Plain lists: a matrix that is filled entry by entry. -/
namespace Go.Proofs.YtkipbfjkcdccjaaDoor
set_option linter.unusedVariables false

/-- the entries of D hold F, the others I -/
def FillD (F I : Nat → Nat → Int) (m n : Nat) (D : Nat → Nat → Prop) (M : List (List Int)) : Prop :=
  Rect M m n ∧ ∀ i j, i < m → j < n → (D i j → ent M i j = F i j) ∧ (¬ D i j → ent M i j = I i j)
theorem FillD.start {F I : Nat → Nat → Int} {m n : Nat} {M : List (List Int)} {D : Nat → Nat → Prop} (hr : Rect M m n) (h : ∀ i j, i < m → j < n → ent M i j = I i j) (hD : ∀ i j, i < m → j < n → ¬ D i j) : FillD F I m n D M :=
  ⟨hr, fun i j hi hj => ⟨fun e => absurd e (hD i j hi hj), fun _ => h i j hi hj⟩⟩
theorem FillD.step {F I : Nat → Nat → Int} {m n : Nat} {M : List (List Int)} {D D' : Nat → Nat → Prop} (h : FillD F I m n D M) {i j : Nat} (hi : i < m) (hj : j < n)
    (hD : ∀ i' j', i' < m → j' < n → (D' i' j' ↔ D i' j' ∨ (i' = i ∧ j' = j))) : FillD F I m n D' (M.set i ((row M i).set j (F i j))) := by
  obtain ⟨hr, h⟩ := h
  have hk : i < M.length := by rw [hr.1]; exact hi
  refine ⟨rect_set hr hi, fun i' j' hi' hj' => ?_⟩
  rw [ent_set hk (by rw [hr.2 i hi]; exact hj)]
  by_cases e : i' = i ∧ j' = j
  · obtain ⟨rfl, rfl⟩ := e
    rw [if_pos ⟨rfl, rfl⟩]
    exact ⟨fun _ => rfl, fun hn => absurd ((hD i' j' hi' hj').2 (.inr ⟨rfl, rfl⟩)) hn⟩
  · rw [if_neg e]
    refine ⟨fun hd => (h i' j' hi' hj').1 ?_, fun hn => (h i' j' hi' hj').2 fun hd => hn ((hD i' j' hi' hj').2 (.inl hd))⟩
    rcases (hD i' j' hi' hj').1 hd with h | h
    · exact h
    · exact absurd h e
theorem FillD.congr {F I : Nat → Nat → Int} {m n : Nat} {M : List (List Int)} {D D' : Nat → Nat → Prop} (h : FillD F I m n D M) (hD : ∀ i j, i < m → j < n → (D' i j ↔ D i j)) : FillD F I m n D' M :=
  ⟨h.1, fun i j hi hj => ⟨fun e => (h.2 i j hi hj).1 ((hD i j hi hj).1 e), fun e => (h.2 i j hi hj).2 fun d => e ((hD i j hi hj).2 d)⟩⟩
theorem FillD.done {F I : Nat → Nat → Int} {m n : Nat} {M : List (List Int)} {D : Nat → Nat → Prop} (h : FillD F I m n D M) (hD : ∀ i j, i < m → j < n → D i j) : M = mkMat m n F :=
  rect_eq_mk h.1 fun i j hi hj => (h.2 i j hi hj).1 (hD i j hi hj)
theorem FillD.todo {F I : Nat → Nat → Int} {m n : Nat} {M : List (List Int)} {D : Nat → Nat → Prop} (h : FillD F I m n D M) {i j : Nat} (hi : i < m) (hj : j < n) (hD : ¬ D i j) : ent M i j = I i j := (h.2 i j hi hj).2 hD

theorem tot_mkMat (m n : Nat) (f : Nat → Nat → Int) : tot (mkMat m n f) = m * n := by
  induction m with
  | zero => simp [mkMat_zero, tot]
  | succ m ih => rw [mkMat_succ, tot_append, ih]; simp [tot, mkRow_len, Nat.succ_mul]
theorem tot_small {m n : Nat} (f : Nat → Nat → Int) (hm : m ≤ 100) (hn : n ≤ 100) : tot (mkMat m n f) ≤ 1000000 := by
  rw [tot_mkMat]; have := Nat.mul_le_mul hm hn; omega

end Go.Proofs.YtkipbfjkcdccjaaDoor

/- Plain words for products, powers, shifts, paths and cycles of matrices. No program in sight. -/
namespace Go.Proofs.YtkipbfjkcdccjaaDoor
set_option linter.unusedVariables false

theorem ent_out {x : List (List Int)} {m n : Nat} (r : Rect x m n) {i j : Nat} (h : ¬ (i < m ∧ j < n)) : ent x i j = 0 := by
  unfold ent
  by_cases hi : i < m
  · have : ¬ j < (row x i).length := by rw [r.2 i hi]; exact fun e => h ⟨hi, e⟩
    unfold nth; simp [List.getD_eq_getElem?_getD, List.getElem?_eq_none (Nat.not_lt.1 this)]
  · have : row x i = [] := by unfold row; simp [List.getD_eq_getElem?_getD, List.getElem?_eq_none (show x.length ≤ i by rw [r.1]; omega)]
    rw [this]; rfl
theorem nth_out {xs : List Int} {i : Nat} (h : xs.length ≤ i) : nth xs i = 0 := by unfold nth; simp [List.getD_eq_getElem?_getD, List.getElem?_eq_none h]

/-- all entries lie between -B and B -/
def EBd (B : Int) (x : List (List Int)) : Prop := ∀ i j, -B ≤ ent x i j ∧ ent x i j ≤ B
def VBd (B : Int) (x : List Int) : Prop := ∀ i, -B ≤ nth x i ∧ nth x i ≤ B
theorem EBd.mono {B C : Int} {x : List (List Int)} (h : EBd B x) (e : B ≤ C) : EBd C x := fun i j => by have := h i j; omega
theorem VBd.mono {B C : Int} {x : List Int} (h : VBd B x) (e : B ≤ C) : VBd C x := fun i => by have := h i; omega
theorem ebd_mk {m n : Nat} {f : Nat → Nat → Int} {B : Int} (h0 : 0 ≤ B) (h : ∀ i j, i < m → j < n → -B ≤ f i j ∧ f i j ≤ B) : EBd B (mkMat m n f) := fun i j => by
  by_cases e : i < m ∧ j < n
  · rw [mkMat_ent e.1 e.2]; exact h i j e.1 e.2
  · rw [ent_out (rect_mk m n f) e]; omega
theorem vbd_mk {n : Nat} {f : Nat → Int} {B : Int} (h0 : 0 ≤ B) (h : ∀ i, i < n → -B ≤ f i ∧ f i ≤ B) : VBd B (mkRow n f) := fun i => by
  by_cases e : i < n
  · rw [mkRow_nth e]; exact h i e
  · rw [nth_out (by rw [mkRow_len]; omega)]; omega
theorem isMat_ebd {x : List (List Int)} (h : isMat x = true) : EBd 1000000000000000 x := fun i j => by
  by_cases e : i < x.length ∧ j < (row x 0).length
  · have := isVal_bd (isMat_val h e.1 e.2); omega
  · rw [ent_out (isMat_rect h).1 e]; omega
theorem isVec_vbd {x : List Int} (h : isVec x = true) : VBd 1000000000000000 x := fun i => by
  unfold isVec at h
  simp only [Bool.and_eq_true] at h
  by_cases e : i < x.length
  · have := isVal_bd (allV_iff.1 h.2 i e); omega
  · rw [nth_out (by omega)]; omega
theorem isVec_len {x : List Int} (h : isVec x = true) : 1 ≤ x.length ∧ x.length ≤ 10 := by
  unfold isVec at h
  simp only [Bool.and_eq_true, inR_iff] at h
  omega

theorem isMat_mk {m n : Nat} (f : Nat → Nat → Int) (h1 : 1 ≤ m) (h2 : m ≤ 10) (h3 : 1 ≤ n) (h4 : n ≤ 10) : isMat (mkMat m n f) = allM (mkMat m n f) := by
  have hr : (row (mkMat m n f) 0).length = n := (rect_mk m n f).2 0 (by omega)
  unfold isMat allM
  rw [mkMat_len, hr, inR_iff.2 (by omega), inR_iff.2 (by omega)]
  simp only [Bool.true_and]
  rw [Bool.eq_iff_iff, all_iff_row, all_iff_row]
  have hl : ∀ i, i < (mkMat m n f).length → (row (mkMat m n f) i).length = n := fun i hi => (rect_mk m n f).2 i (by rw [mkMat_len] at hi; exact hi)
  constructor
  · intro h i hi; have := h i hi; unfold rowOk at this; rw [Bool.and_eq_true] at this; exact this.2
  · intro h i hi; unfold rowOk; rw [hl i hi, h i hi]; simp
theorem isVec_mk {n : Nat} (f : Nat → Int) (h1 : 1 ≤ n) (h2 : n ≤ 10) : isVec (mkRow n f) = allV (mkRow n f) := by
  unfold isVec; rw [mkRow_len, inR_iff.2 (by omega)]; simp

/-- a matrix that is checked -/
def chkM (p : List (List Int)) : List (List Int) × Int := if allM p then (p, 0) else ([], 3)
def chkX (p : List Int) : List Int × Int := if allV p then (p, 0) else ([], 3)
theorem chkM_tot {p : List (List Int)} (h : tot p ≤ 1000000) : tot (chkM p).1 ≤ 1000000 := by unfold chkM; split <;> simp_all [tot]
theorem chkX_len {p : List Int} (h : p.length ≤ 1000000) : (chkX p).1.length ≤ 1000000 := by unfold chkX; split <;> simp_all

def mulV (x y : List (List Int)) : List (List Int) × Int :=
  if isMat x && isMat y then (if (row x 0).length = y.length then chkM (mkMat x.length (row y 0).length (mulE y.length x y)) else ([], 5)) else ([], 1)
theorem mulV_tot (x y : List (List Int)) : tot (mulV x y).1 ≤ 1000000 := by
  unfold mulV
  split
  · rename_i h
    rw [Bool.and_eq_true] at h
    have h1 := isMat_rect h.1
    have h2 := isMat_rect h.2
    split
    · exact chkM_tot (tot_small _ (by omega) (by omega))
    · simp [tot]
  · simp [tot]
def appF (n : Nat) (a : List (List Int)) (x : List Int) (i : Nat) : Int := mx n fun k => times (ent a i k) (nth x k)
def appV (a : List (List Int)) (x : List Int) : List Int × Int :=
  if isMat a && isVec x then (if (row a 0).length = x.length then chkX (mkRow a.length (appF x.length a x)) else ([], 5)) else ([], 1)
theorem appV_len (a : List (List Int)) (x : List Int) : (appV a x).1.length ≤ 1000000 := by
  unfold appV
  split
  · rename_i h
    rw [Bool.and_eq_true] at h
    have h1 := isMat_rect h.1
    split
    · exact chkX_len (by rw [mkRow_len]; omega)
    · simp
  · simp

theorem times_bd {a b A B : Int} (ha : -A ≤ a ∧ a ≤ A) (hb : -B ≤ b ∧ b ≤ B) (h : 1000000000000000 ≤ A + B) : -(A + B) ≤ times a b ∧ times a b ≤ A + B := by
  unfold times; split <;> omega
theorem mx_bd {n : Nat} {f : Nat → Int} {B : Int} (hB : 1000000000000000 ≤ B) (h : ∀ i, i < n → -B ≤ f i ∧ f i ≤ B) : -B ≤ mx n f ∧ mx n f ≤ B := by
  induction n with
  | zero => simp only [mx]; omega
  | succ n ih => simp only [mx]; have := ih fun i hi => h i (by omega); have := h n (by omega); omega
theorem mx_ge {n : Nat} {f : Nat → Int} : -1000000000000000 ≤ mx n f := by
  induction n with
  | zero => simp only [mx]; omega
  | succ n ih => simp only [mx]; omega

/-- the powers of a square matrix, as long as all are matrices -/
def powS (n : Nat) (a : List (List Int)) : Nat → Option (List (List Int))
  | 0 => some (mkMat n n unitF)
  | k + 1 => match powS n a k with
    | none => none
    | some p => if allM (mkMat n n (mulE n p a)) then some (mkMat n n (mulE n p a)) else none
def optM : Option (List (List Int)) → List (List Int) × Int
  | none => ([], 3)
  | some p => (p, 0)
def powMV (a : List (List Int)) (n : Int) : List (List Int) × Int :=
  if isMat a then (if inR n 0 100 then (if a.length = (row a 0).length then optM (powS a.length a n.toNat) else ([], 5)) else ([], 2)) else ([], 1)
theorem powS_form {n : Nat} {a : List (List Int)} {k : Nat} {p : List (List Int)} (h : powS n a k = some p) : ∃ f, p = mkMat n n f := by
  cases k with
  | zero => simp only [powS, Option.some.injEq] at h; exact ⟨_, h.symm⟩
  | succ k =>
    simp only [powS] at h
    split at h
    · simp at h
    · split at h
      · simp only [Option.some.injEq] at h; exact ⟨_, h.symm⟩
      · simp at h
theorem allM_unit (n : Nat) : allM (mkMat n n unitF) = true := by
  unfold allM; rw [all_iff_row]; intro i hi
  rw [mkMat_len] at hi
  rw [mkMat_row hi, allV_iff]; intro j hj
  rw [mkRow_len] at hj
  rw [mkRow_nth hj]; unfold unitF; split <;> decide
theorem powS_val {n : Nat} {a : List (List Int)} {k : Nat} {p : List (List Int)} (h : powS n a k = some p) : allM p = true := by
  cases k with
  | zero => simp only [powS, Option.some.injEq] at h; rw [← h]; exact allM_unit n
  | succ k =>
    simp only [powS] at h
    split at h
    · simp at h
    · split at h
      · rename_i e; simp only [Option.some.injEq] at h; rw [← h]; exact e
      · simp at h
theorem powS_mono {n : Nat} {a : List (List Int)} {k : Nat} (h : powS n a k = none) (j : Nat) : powS n a (k + j) = none := by
  induction j with
  | zero => exact h
  | succ j ih => rw [← Nat.add_assoc]; simp only [powS]; rw [ih]
theorem powMV_tot (a : List (List Int)) (n : Int) : tot (powMV a n).1 ≤ 1000000 := by
  unfold powMV
  split
  · rename_i h
    have h1 := isMat_rect h
    split
    · split
      · cases e : powS a.length a n.toNat with
        | none => simp [optM, tot]
        | some p => obtain ⟨f, rfl⟩ := powS_form e; simp only [optM]; exact tot_small _ (by omega) (by omega)
      · simp [tot]
    · simp [tot]
  · simp [tot]
theorem allM_ebd {n : Nat} {p : List (List Int)} (hr : Rect p n n) (h : allM p = true) : EBd 1000000000000000 p := fun i j => by
  by_cases e : i < n ∧ j < n
  · unfold allM at h
    have := isVal_bd (allV_iff.1 (all_iff_row.1 h i (by rw [hr.1]; exact e.1)) j (by rw [hr.2 i e.1]; exact e.2))
    show _ ≤ nth (row p i) j ∧ _
    unfold ent; omega
  · rw [ent_out hr e]; omega

/-- shifted by a ratio -/
def shiftE (x : List (List Int)) (num den : Int) (i j : Nat) : Int := if ent x i j = -1000000000000000 then -1000000000000000 else den * ent x i j - num
theorem shiftE_bd {x : List (List Int)} (hx : isSq x = true) {num den : Int} (hn : -1000000 ≤ num ∧ num ≤ 1000000) (hd : -1000000 ≤ den ∧ den ≤ 1000000) {i j : Nat} (hi : i < x.length) (hj : j < x.length) :
    shiftE x num den i j = -1000000000000000 ∨ (-1000001000000 ≤ shiftE x num den i j ∧ shiftE x num den i j ≤ 1000001000000) := by
  unfold shiftE
  split
  · exact .inl rfl
  · rename_i h
    rcases isVal_iff.1 (isSq_val hx hi hj) with e | e
    · exact absurd e h
    · have := mul_bd hd e; omega
def shiftM (x : List (List Int)) (num den : Int) : List (List Int) := mkMat x.length x.length (shiftE x num den)
theorem shiftM_ebd {x : List (List Int)} (hx : isSq x = true) {num den : Int} (hn : -1000000 ≤ num ∧ num ≤ 1000000) (hd : -1000000 ≤ den ∧ den ≤ 1000000) : EBd 1000000000000000 (shiftM x num den) :=
  ebd_mk (by omega) fun i j hi hj => by rcases shiftE_bd hx hn hd hi hj with h | h <;> omega
def shiftV (x : List (List Int)) (r : Int × Int) : List (List Int) × Int := if isSq x && isRat r then chkM (shiftM x r.1 r.2) else ([], 1)
def stretchV (x : List (List Int)) (n : Int) : List (List Int) × Int := if isSq x then (if inR n 1 1000000 then chkM (shiftM x 0 n) else ([], 2)) else ([], 1)
theorem shiftM_tot {x : List (List Int)} (hx : isSq x = true) (num den : Int) : tot (shiftM x num den) ≤ 1000000 := by
  have := isSq_rect hx; exact tot_small _ (by omega) (by omega)
theorem shiftV_tot (x : List (List Int)) (r : Int × Int) : tot (shiftV x r).1 ≤ 1000000 := by
  unfold shiftV; split
  · rename_i h; rw [Bool.and_eq_true] at h; exact chkM_tot (shiftM_tot h.1 _ _)
  · simp [tot]
theorem stretchV_tot (x : List (List Int)) (n : Int) : tot (stretchV x n).1 ≤ 1000000 := by
  unfold stretchV; split
  · rename_i h; split
    · exact chkM_tot (shiftM_tot h _ _)
    · simp [tot]
  · simp [tot]

/-- the weight of the arcs of a list of nodes up to place k -/
def walkO (a : List (List Int)) (xs : List Int) : Nat → Option Int
  | 0 => some 0
  | k + 1 => match walkO a xs k with
    | none => none
    | some t => if ent a (nth xs (k + 1)).toNat (nth xs k).toNat = -1000000000000000 then none else some (t + ent a (nth xs (k + 1)).toNat (nth xs k).toNat)
theorem walkO_none {a : List (List Int)} {xs : List Int} {k : Nat} (h : walkO a xs k = none) (j : Nat) : walkO a xs (k + j) = none := by
  induction j with
  | zero => exact h
  | succ j ih => rw [← Nat.add_assoc]; simp only [walkO]; rw [ih]
def nodes (n : Nat) (xs : List Int) : Bool := xs.all fun v => inR v 0 ((n : Int) - 1)
theorem nodes_iff {n : Nat} {xs : List Int} : nodes n xs = true ↔ ∀ i, i < xs.length → 0 ≤ nth xs i ∧ nth xs i ≤ (n : Int) - 1 := by
  unfold nodes
  rw [List.all_eq_true]
  constructor
  · intro h i hi; rw [nth_of_lt hi]; exact inR_iff.1 (h _ (List.getElem_mem hi))
  · intro h x hx
    obtain ⟨i, hi, rfl⟩ := List.getElem_of_mem hx
    have := h i hi
    rw [nth_of_lt hi] at this
    exact inR_iff.2 this
theorem nodes_no {n : Nat} {xs : List Int} {i : Nat} (hi : i < xs.length) (h : inR (nth xs i) 0 ((n : Int) - 1) = false) : nodes n xs = false := by
  cases e : nodes n xs
  · rfl
  · have := inR_iff.2 (nodes_iff.1 e i hi); rw [h] at this; cases this
def optV : Option Int → Int × Int
  | none => (0, 4)
  | some t => chkV t
def pathV (a : List (List Int)) (xs : List Int) : Int × Int :=
  if isSq a then (if inR xs.length 1 100 && nodes a.length xs then optV (walkO a xs (xs.length - 1)) else (0, 2)) else (0, 1)
theorem isSq_ebd1 {a : List (List Int)} (h : isSq a = true) {i j : Nat} (hne : ent a i j ≠ -1000000000000000) : -1000000 ≤ ent a i j ∧ ent a i j ≤ 1000000 := by
  by_cases e : i < a.length ∧ j < a.length
  · rcases isVal_iff.1 (isSq_val h e.1 e.2) with e | e
    · exact absurd e hne
    · exact e
  · rw [ent_out (isSq_rect h).1 e]; omega
theorem walkO_bd {a : List (List Int)} (h : isSq a = true) {xs : List Int} {k : Nat} {t : Int} (e : walkO a xs k = some t) : -1000000 * (k : Int) ≤ t ∧ t ≤ 1000000 * (k : Int) := by
  induction k generalizing t with
  | zero => simp only [walkO, Option.some.injEq] at e; omega
  | succ k ih =>
    simp only [walkO] at e
    split at e
    · simp at e
    · rename_i s hs
      split at e
      · simp at e
      · rename_i hne
        simp only [Option.some.injEq] at e
        have := ih hs
        have := isSq_ebd1 h hne
        omega

/-- cycles: all are nodes, none twice, no arc is missing -/
def before (xs : List Int) (i : Nat) : Int := if i = 0 then nth xs (xs.length - 1) else nth xs (i - 1)
def stepOk (a : List (List Int)) (xs : List Int) (i : Nat) : Bool :=
  inR (nth xs i) 0 ((a.length : Int) - 1) && inR (before xs i) 0 ((a.length : Int) - 1) && !(xs.take i).contains (nth xs i) && !(ent a (nth xs i).toNat (before xs i).toNat == -1000000000000000)
/-- the weight up to place k of what impl's loop goes through -/
def cycO (a : List (List Int)) (xs : List Int) : Nat → Option Int
  | 0 => some 0
  | k + 1 => match cycO a xs k with
    | none => none
    | some t => if stepOk a xs k then some (t + ent a (nth xs k).toNat (before xs k).toNat) else none
def cycleO (a : List (List Int)) (xs : List Int) : Option Int := if xs.length = 0 then none else cycO a xs xs.length
theorem cycO_none {a : List (List Int)} {xs : List Int} {k : Nat} (h : cycO a xs k = none) (j : Nat) : cycO a xs (k + j) = none := by
  induction j with
  | zero => exact h
  | succ j ih => rw [← Nat.add_assoc]; simp only [cycO]; rw [ih]
theorem cycO_bd {a : List (List Int)} (h : isSq a = true) {xs : List Int} {k : Nat} {t : Int} (e : cycO a xs k = some t) : -1000000 * (k : Int) ≤ t ∧ t ≤ 1000000 * (k : Int) := by
  induction k generalizing t with
  | zero => simp only [cycO, Option.some.injEq] at e; omega
  | succ k ih =>
    simp only [cycO] at e
    split at e
    · simp at e
    · rename_i s hs
      split at e
      · rename_i hk
        unfold stepOk at hk
        simp only [Bool.and_eq_true, Bool.not_eq_true', beq_eq_false_iff_ne] at hk
        simp only [Option.some.injEq] at e
        have := ih hs
        have := isSq_ebd1 h hk.2
        omega
      · simp at e
def isCycV (a : List (List Int)) (xs : List Int) : Bool := isSq a && (cycleO a xs).isSome
def cycV (a : List (List Int)) (xs : List Int) : Int × Int := if isSq a then optV (cycleO a xs) else (0, 1)
end Go.Proofs.YtkipbfjkcdccjaaDoor

/- Plain law: the two ways to weigh a cycle agree. -/
namespace Go.Proofs.YtkipbfjkcdccjaaDoor
set_option linter.unusedVariables false

def sumTo (f : Nat → Int) : Nat → Int
  | 0 => 0
  | k + 1 => sumTo f k + f k
theorem sumTo_congr {f g : Nat → Int} {k : Nat} (h : ∀ i, i < k → f i = g i) : sumTo f k = sumTo g k := by
  induction k with
  | zero => rfl
  | succ k ih => simp only [sumTo]; rw [ih fun i hi => h i (by omega), h k (by omega)]
theorem sumTo_shift (f : Nat → Int) (k : Nat) : sumTo f (k + 1) = f 0 + sumTo (fun i => f (i + 1)) k := by
  induction k with
  | zero => simp [sumTo]
  | succ k ih => rw [sumTo, ih]; simp only [sumTo]; omega

def arcC (a : List (List Int)) (xs : List Int) (i : Nat) : Int := ent a (nth xs i).toNat (before xs i).toNat
def arcW (a : List (List Int)) (xs : List Int) (i : Nat) : Int := ent a (nth xs (i + 1)).toNat (nth xs i).toNat
theorem cycO_all {a : List (List Int)} {xs : List Int} {k : Nat} (h : ∀ i, i < k → stepOk a xs i = true) : cycO a xs k = some (sumTo (arcC a xs) k) := by
  induction k with
  | zero => rfl
  | succ k ih => simp only [cycO]; rw [ih fun i hi => h i (by omega), h k (by omega)]; rfl
theorem cycO_not {a : List (List Int)} {xs : List Int} {k i : Nat} (hi : i < k) (h : stepOk a xs i = false) : cycO a xs k = none := by
  have h1 : cycO a xs (i + 1) = none := by
    simp only [cycO]
    split
    · rfl
    · rw [h]; simp
  have := cycO_none h1 (k - (i + 1))
  rwa [show i + 1 + (k - (i + 1)) = k by omega] at this
theorem walkO_all {a : List (List Int)} {xs : List Int} {k : Nat} (h : ∀ i, i < k → arcW a xs i ≠ -1000000000000000) : walkO a xs k = some (sumTo (arcW a xs) k) := by
  induction k with
  | zero => rfl
  | succ k ih =>
    simp only [walkO]
    rw [ih fun i hi => h i (by omega)]
    have := h k (by omega)
    unfold arcW at this
    simp only
    rw [if_neg this]; rfl
theorem walkO_not {a : List (List Int)} {xs : List Int} {k i : Nat} (hi : i < k) (h : arcW a xs i = -1000000000000000) : walkO a xs k = none := by
  have h1 : walkO a xs (i + 1) = none := by
    unfold arcW at h
    simp only [walkO]
    split
    · rfl
    · rw [if_pos h]
  have := walkO_none h1 (k - (i + 1))
  rwa [show i + 1 + (k - (i + 1)) = k by omega] at this

/-- no element comes twice -/
def once (xs : List Int) : Prop := ∀ i, i < xs.length → (xs.take i).contains (nth xs i) = false
def sCyc (a : List (List Int)) (xs : List Int) : Option Int := walkO a (xs ++ [nth xs 0]) xs.length
theorem nth_app1 {xs : List Int} {y : Int} {i : Nat} (h : i < xs.length) : nth (xs ++ [y]) i = nth xs i := by
  unfold nth; simp [List.getD_eq_getElem?_getD, List.getElem?_append_left h]
theorem nth_app2 {xs : List Int} {y : Int} : nth (xs ++ [y]) xs.length = y := by
  unfold nth; simp [List.getD_eq_getElem?_getD]
theorem before_node {n : Nat} {xs : List Int} (h : nodes n xs = true) {i : Nat} (hi : i < xs.length) : inR (before xs i) 0 ((n : Int) - 1) = true := by
  unfold before; split
  · exact inR_iff.2 (nodes_iff.1 h _ (by omega))
  · exact inR_iff.2 (nodes_iff.1 h _ (by omega))
theorem stepOk_arc {a : List (List Int)} {xs : List Int} (h : nodes a.length xs = true) (ho : once xs) {i : Nat} (hi : i < xs.length) : stepOk a xs i = !(arcC a xs i == -1000000000000000) := by
  unfold stepOk arcC
  rw [before_node h hi, inR_iff.2 (nodes_iff.1 h i hi), ho i hi]; simp
theorem cycle_bad1 {a : List (List Int)} {xs : List Int} (h : nodes a.length xs = false) : cycleO a xs = none := by
  unfold cycleO; split
  · rfl
  · have : ¬ ∀ i, i < xs.length → 0 ≤ nth xs i ∧ nth xs i ≤ (a.length : Int) - 1 := fun e => by rw [nodes_iff.2 e] at h; cases h
    obtain ⟨i, hi⟩ := Classical.not_forall.1 this
    obtain ⟨hi, hn⟩ := Classical.not_imp.1 hi
    refine cycO_not hi ?_
    unfold stepOk
    have : inR (nth xs i) 0 ((a.length : Int) - 1) = false := by
      cases e : inR (nth xs i) 0 ((a.length : Int) - 1)
      · rfl
      · exact absurd (inR_iff.1 e) hn
    rw [this]; simp
theorem cycle_bad2 {a : List (List Int)} {xs : List Int} {i : Nat} (hi : i < xs.length) (h : (xs.take i).contains (nth xs i) = true) : cycleO a xs = none := by
  unfold cycleO; split
  · rfl
  · refine cycO_not hi ?_
    unfold stepOk; rw [h]; simp
theorem cycle_good {a : List (List Int)} {xs : List Int} (h0 : 0 < xs.length) (h : nodes a.length xs = true) (ho : once xs) : cycleO a xs = sCyc a xs := by
  unfold cycleO sCyc
  rw [if_neg (by omega)]
  have e1 : ∀ i, i + 1 < xs.length → arcW a (xs ++ [nth xs 0]) i = arcC a xs (i + 1) := fun i hi => by
    unfold arcW arcC before
    rw [nth_app1 hi, nth_app1 (by omega), if_neg (by omega)]; rfl
  have e2 : arcW a (xs ++ [nth xs 0]) (xs.length - 1) = arcC a xs 0 := by
    unfold arcW arcC before
    rw [show xs.length - 1 + 1 = xs.length by omega, nth_app2, nth_app1 (by omega), if_pos rfl]
  by_cases hall : ∀ i, i < xs.length → arcC a xs i ≠ -1000000000000000
  · rw [cycO_all fun i hi => by rw [stepOk_arc h ho hi]; simpa using hall i hi]
    rw [walkO_all fun i hi => by
      by_cases e : i + 1 < xs.length
      · rw [e1 i e]; exact hall _ e
      · rw [show i = xs.length - 1 by omega, e2]; exact hall 0 h0]
    congr 1
    obtain ⟨n, hn⟩ : ∃ n, xs.length = n + 1 := ⟨xs.length - 1, by omega⟩
    rw [hn, sumTo_shift, sumTo, sumTo_congr (f := arcW a (xs ++ [nth xs 0])) (g := fun i => arcC a xs (i + 1)) fun i hi => e1 i (by omega)]
    rw [show n = xs.length - 1 by omega, e2]; omega
  · obtain ⟨i, hi⟩ := Classical.not_forall.1 hall
    obtain ⟨hi, hn⟩ := Classical.not_imp.1 hi
    have hn := Classical.not_not.1 hn
    rw [cycO_not hi (by rw [stepOk_arc h ho hi, hn]; rfl)]
    cases i with
    | zero => rw [walkO_not (i := xs.length - 1) (by omega) (by rw [e2]; exact hn)]
    | succ i => rw [walkO_not (i := i) (by omega) (by rw [e1 i hi]; exact hn)]

theorem has_iff {xs : List Int} {x : Int} : xs.contains x = true ↔ ∃ i, i < xs.length ∧ nth xs i = x := by
  rw [List.contains_iff_mem]
  constructor
  · intro h; obtain ⟨i, hi, e⟩ := List.getElem_of_mem h; exact ⟨i, hi, by rw [nth_of_lt hi]; exact e⟩
  · rintro ⟨i, hi, rfl⟩; rw [nth_of_lt hi]; exact List.getElem_mem hi
theorem has_no {xs : List Int} {x : Int} (h : ∀ i, i < xs.length → nth xs i ≠ x) : xs.contains x = false := by
  cases e : xs.contains x
  · rfl
  · obtain ⟨i, hi, e⟩ := has_iff.1 e; exact absurd e (h i hi)
theorem nth_take {xs : List Int} {i k : Nat} (h : i < k) : nth (xs.take k) i = nth xs i := by
  unfold nth; simp [List.getD_eq_getElem?_getD, h]
end Go.Proofs.YtkipbfjkcdccjaaDoor

/- Plain law: products distribute over sums. No program in sight. -/
namespace Go.Proofs.YtkipbfjkcdccjaaDoor
set_option linter.unusedVariables false

theorem sumI_app (xs : List Int) (y : Int) : sumI (xs ++ [y]) = max (sumI xs) y := by
  unfold sumI; rw [List.foldl_append]; rfl
theorem sumI_val {xs : List Int} (h : allV xs = true) (k : Nat) (hk : k ≤ xs.length) : isVal (sumI (xs.take k)) = true := by
  induction k with
  | zero => show isVal (-1000000000000000) = true; decide
  | succ k ih =>
    have h1 := ih (by omega)
    have h2 := allV_iff.1 h k (by omega)
    rw [sumI_snoc xs k (by omega)]
    rw [isVal_iff] at h1 h2 ⊢
    omega
/-- what a product with a value is, if it is one -/
theorem prodV_val {a b : Int} (ha : isVal a = true) (hb : isVal b = true) (h : (prodV a b).2 = 0) : (prodV a b).1 = times a b ∧ isVal (times a b) = true := by
  unfold prodV chkV at h ⊢
  rw [ha, hb] at h ⊢
  simp only [Bool.and_self, if_true] at h ⊢
  split
  · rename_i e; exact ⟨rfl, e⟩
  · rename_i e; rw [if_neg e] at h; simp at h
theorem prodV_code {a b : Int} (ha : isVal a = true) (hb : isVal b = true) (h : (prodV a b).2 ≠ 0) : (prodV a b).2 = 3 := by
  unfold prodV chkV at h ⊢
  rw [ha, hb] at h ⊢
  simp only [Bool.and_self, if_true] at h ⊢
  split
  · rename_i e; rw [if_pos e] at h; exact absurd rfl h
  · rfl
theorem times_mx {a x y : Int} (ha : isVal a = true) (hx : isVal x = true) (hy : isVal y = true) : times a (max x y) = max (times a x) (times a y) := by
  rw [isVal_iff] at ha hx hy
  unfold times
  rcases ha with ha | ha <;> rcases hx with hx | hx <;> rcases hy with hy | hy
  all_goals
    by_cases hxy : x ≤ y
    · rw [show max x y = y by omega]; split <;> split <;> omega
    · rw [show max x y = x by omega]; split <;> split <;> omega
def eachV (a : Int) (xs : List Int) (k : Nat) : List Int := mkRow k fun i => (prodV a (nth xs i)).1
theorem dist_law {a : Int} {xs : List Int} (ha : isVal a = true) (hx : allV xs = true) (h : ∀ i, i < xs.length → (prodV a (nth xs i)).2 = 0) (k : Nat) (hk : k ≤ xs.length) :
    times a (sumI (xs.take k)) = sumI (eachV a xs k) ∧ isVal (sumI (eachV a xs k)) = true ∧ allV (eachV a xs k) = true := by
  induction k with
  | zero =>
    refine ⟨?_, show isVal (-1000000000000000) = true by decide, rfl⟩
    show times a (-1000000000000000) = -1000000000000000
    unfold times; simp
  | succ k ih =>
    obtain ⟨h1, h2, h3⟩ := ih (by omega)
    have hv := allV_iff.1 hx k (by omega)
    obtain ⟨p1, p2⟩ := prodV_val ha hv (h k (by omega))
    have e : eachV a xs (k + 1) = eachV a xs k ++ [times a (nth xs k)] := by unfold eachV; rw [mkRow_succ, p1]
    rw [sumI_snoc xs k (by omega), times_mx ha (sumI_val hx k (by omega)) hv, e, sumI_app, h1]
    refine ⟨rfl, ?_, ?_⟩
    · rw [isVal_iff] at h2 p2 ⊢; omega
    · unfold allV at h3 ⊢; rw [List.all_append, h3]; simp [p2]
theorem values_law {a : Int} {xs : List Int} (ha : isVal a = true) (hs : (sumV xs).2 = 0) (h : ∀ i, i < xs.length → (prodV a (nth xs i)).2 = 0) :
    (prodV a (sumV xs).1).2 = 0 ∧ (sumV (eachV a xs xs.length)).2 = 0 ∧ (prodV a (sumV xs).1).1 = (sumV (eachV a xs xs.length)).1 := by
  have hx : allV xs = true ∧ ¬ 200 < xs.length := by
    unfold sumV at hs
    split at hs
    · simp at hs
    · split at hs
      · rename_i h1 h2; exact ⟨h2, h1⟩
      · simp at hs
  obtain ⟨h1, h2, h3⟩ := dist_law ha hx.1 h xs.length (Nat.le_refl _)
  rw [List.take_length] at h1
  have hsv := sumI_val hx.1 xs.length (Nat.le_refl _)
  rw [List.take_length] at hsv
  have e1 : sumV xs = (sumI xs, 0) := by unfold sumV; rw [if_neg hx.2, if_pos hx.1]
  have e2 : sumV (eachV a xs xs.length) = (sumI (eachV a xs xs.length), 0) := by
    unfold sumV; rw [if_neg (by unfold eachV; rw [mkRow_len]; exact hx.2), if_pos h3]
  have e3 : prodV a (sumI xs) = (times a (sumI xs), 0) := by
    unfold prodV chkV; rw [ha, hsv]; simp only [Bool.and_self, if_true]; rw [h1, if_pos h2]
  rw [e1, e2]; simp only
  rw [e3]; exact ⟨rfl, trivial, h1⟩
theorem values_unit {a : Int} (ha : isVal a = true) : prodV a 0 = (a, 0) := by
  unfold prodV chkV
  have h0 : isVal 0 = true := by decide
  rw [ha, h0]; simp only [Bool.and_self, if_true]
  have e : times a 0 = a := by
    rw [isVal_iff] at ha; unfold times; split <;> omega
  rw [e, if_pos ha]
theorem values_bottom {a : Int} (ha : isVal a = true) : sumV [a, -1000000000000000] = (a, 0) := by
  unfold sumV
  have hv : allV [a, -1000000000000000] = true := by
    have : isVal (-1000000000000000) = true := by decide
    simp [allV, ha, this]
  rw [if_neg (by simp), if_pos hv]
  have hb := isVal_bd ha
  have : sumI [a, -1000000000000000] = a := by unfold sumI; simp only [List.foldl]; omega
  rw [this]
end Go.Proofs.YtkipbfjkcdccjaaDoor
