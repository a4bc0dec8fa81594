/- Plain law: the search for the greatest mean: what one step of it shows. No program is entered. -/
import Derived.Test.YtljchmkoafahgaaK5
namespace Go.Proofs.Ytljchmkoafahgaa
set_option linter.unusedVariables false

/-- a square table that the search goes through -/
structure YOk (y : List (List Int)) (n : Nat) : Prop where
  rect : Rect y n n
  lo : 1 ≤ n
  hi : n ≤ 10
  bd : ∀ i j, ent y i j ≠ -1000000000000000 → -2000000000000 ≤ ent y i j ∧ ent y i j ≤ 2000000000000
theorem YOk.of_sq {x : List (List Int)} (h : isSq x = true) : YOk x x.length :=
  ⟨(isSq_rect h).1, (isSq_rect h).2.1, (isSq_rect h).2.2, fun i j hne => by have := isSq_ebd1 h hne; omega⟩
theorem shiftE_ne {x : List (List Int)} (h : isSq x = true) {num den : Int} (hn : -100000000 ≤ num ∧ num ≤ 100000000) (hd : -1000000 ≤ den ∧ den ≤ 1000000) {i j : Nat} :
    (shiftE x num den i j ≠ -1000000000000000 ↔ ent x i j ≠ -1000000000000000) ∧ (shiftE x num den i j ≠ -1000000000000000 → (-2000000000000 ≤ shiftE x num den i j ∧ shiftE x num den i j ≤ 2000000000000) ∧ shiftE x num den i j = den * ent x i j - num) := by
  unfold shiftE
  by_cases e : ent x i j = -1000000000000000
  · rw [if_pos e]; exact ⟨⟨fun h => absurd rfl h, fun h => absurd e h⟩, fun h => absurd rfl h⟩
  · rw [if_neg e]
    have h1 := isSq_ebd1 h e
    have h2 := mul_bd hd h1
    exact ⟨⟨fun _ => e, fun _ => by omega⟩, fun _ => ⟨by omega, rfl⟩⟩
theorem YOk.of_shift {x : List (List Int)} (h : isSq x = true) {num den : Int} (hn : -100000000 ≤ num ∧ num ≤ 100000000) (hd : -1000000 ≤ den ∧ den ≤ 1000000) : YOk (shiftM x num den) x.length :=
  ⟨rect_mk _ _ _, (isSq_rect h).2.1, (isSq_rect h).2.2, fun i j hne => by
    by_cases e : i < x.length ∧ j < x.length
    · unfold shiftM at hne ⊢
      rw [mkMat_ent e.1 e.2] at hne ⊢
      exact ((shiftE_ne h hn hd).2 hne).1
    · unfold shiftM; rw [ent_out (rect_mk _ _ _) e]; omega⟩
theorem shift_walk {x : List (List Int)} (h : isSq x = true) {num den : Int} (hn : -100000000 ≤ num ∧ num ≤ 100000000) (hd : -1000000 ≤ den ∧ den ≤ 1000000) : ∀ (l : List Nat) (v : Nat), lo x.length (v :: l) →
    (fk (ent (shiftM x num den)) (v :: l) ↔ fk (ent x) (v :: l)) ∧ (fk (ent x) (v :: l) → fw (ent (shiftM x num den)) (v :: l) = den * fw (ent x) (v :: l) - num * (l.length : Int))
  | [], v, hl => ⟨Iff.rfl, fun _ => by show (0 : Int) = den * 0 - num * ((0 : Nat) : Int); simp⟩
  | z :: l, v, hl => by
    have h1 := lo_cons.1 hl
    have h2 := lo_cons.1 h1.2
    have ih := shift_walk h hn hd l z h1.2
    have e : ent (shiftM x num den) v z = shiftE x num den v z := by unfold shiftM; exact mkMat_ent h1.1 h2.1
    have hs := shiftE_ne h hn hd (i := v) (j := z)
    refine ⟨?_, fun hk => ?_⟩
    · show (ent (shiftM x num den) v z ≠ _ ∧ _) ↔ (ent x v z ≠ _ ∧ _)
      rw [e, hs.1, ih.1]
    · show ent (shiftM x num den) v z + fw (ent (shiftM x num den)) (z :: l) = den * (ent x v z + fw (ent x) (z :: l)) - num * ((l.length + 1 : Nat) : Int)
      rw [e, (hs.2 (hs.1.2 hk.1)).2, ih.2 hk.2, Int.mul_add, show ((l.length + 1 : Nat) : Int) = (l.length : Int) + 1 by omega, Int.mul_add, Int.mul_one]
      omega

/-- a cycle as the search writes it -/
structure Cy (A : Nat → Nat → Int) (n f : Nat) (m : List Nat) : Prop where
  nd : (f :: m).Nodup
  lo : lo n (f :: m)
  lt : ∀ u ∈ m, f < u
  fk : fk A (f :: (m ++ [f]))
def cw (A : Nat → Nat → Int) (f : Nat) (m : List Nat) : Int := fw A (f :: (m ++ [f]))
/-- what the search hands back -/
def Found (A : Nat → Nat → Int) (n : Nat) (over : Int) (out : List Int) : Prop := ∃ f m, out = pathL f m ∧ Cy A n f m ∧ over < cw A f m
def OverPost (A : Nat → Nat → Int) (n : Nat) (over : Int) (out : List Int) : Prop := (out = [] ∧ ∀ f m, Cy A n f m → cw A f m ≤ over) ∨ Found A n over out
/-- what is left to be searched from a path -/
def Beyond (A : Nat → Nat → Int) (n f : Nat) (m : List Nat) (over : Int) : Prop := ∀ s, Cy A n f (s ++ m) → cw A f (s ++ m) ≤ over
def GrowPost (A : Nat → Nat → Int) (n f : Nat) (m : List Nat) (over : Int) (out : List Int) : Prop := (out = [] ∧ Beyond A n f m over) ∨ Found A n over out
theorem Found.ne {A : Nat → Nat → Int} {n : Nat} {over : Int} {out : List Int} (h : Found A n over out) : 0 < out.length := by
  obtain ⟨f, m, rfl, _⟩ := h; rw [pathL_len]; omega
theorem Found.len {A : Nat → Nat → Int} {n : Nat} {over : Int} {out : List Int} (h : Found A n over out) : out.length ≤ n := by
  obtain ⟨f, m, rfl, h1, _⟩ := h
  have := nodup_len n _ h1.nd h1.lo
  rw [pathL_len]; simpa using this
theorem Cy.len {A : Nat → Nat → Int} {n f : Nat} {m : List Nat} (h : Cy A n f m) : m.length + 1 ≤ n := by have := nodup_len n _ h.nd h.lo; simpa using this

theorem cw_bd {x : List (List Int)} (h : isSq x = true) {f : Nat} {m : List Nat} (hc : Cy (ent x) x.length f m) : -1000000 * ((m.length : Int) + 1) ≤ cw (ent x) f m ∧ cw (ent x) f m ≤ 1000000 * ((m.length : Int) + 1) := by
  have := fwl_bd (A := ent x) (fun i j hne => isSq_ebd1 h hne) (m ++ [f]) f hc.fk
  simp only [List.length_append, List.length_cons, List.length_nil] at this
  unfold cw; omega
/-- no cycle at all -/
theorem over_none {x : List (List Int)} (h : isSq x = true) (hp : ∀ f m, Cy (ent x) x.length f m → cw (ent x) f m ≤ -1000000000000000) : bestO x x.length = none := by
  refine none_best h fun c t h1 h2 => ?_
  obtain ⟨z, m, g1, g2, g3, g4, g5⟩ := simple_cycle (q := 0) (p := -1) t.length c t (Nat.le_refl _) h1 h2 (by omega)
  have hc : Cy (ent x) x.length z m := ⟨g1, g2, g3, g4⟩
  have h3 := hp z m hc
  have h4 := cw_bd h hc
  have := hc.len
  have := (isSq_rect h).2.2
  omega
theorem ratOf_sm2 {a b : Int} (ha : -100000000 ≤ a ∧ a ≤ 100000000) (hb : 0 < b ∧ b ≤ 1000000) : (-100000000 ≤ (ratOf a b).1 ∧ (ratOf a b).1 ≤ 100000000) ∧ (-1000000 ≤ (ratOf a b).2 ∧ (ratOf a b).2 ≤ 1000000) := by
  have hs : sgnR a b = (a, b) := by unfold sgnR; rw [if_neg (by omega)]
  unfold ratOf
  rw [hs]
  simp only
  exact ⟨tdiv_bd (a := a) (b := gcdI a b) ha, tdiv_bd (a := b) (b := gcdI a b) (A := 1000000) (by omega)⟩
/-- the mean of such a cycle -/
def mn (A : Nat → Nat → Int) (f : Nat) (m : List Nat) : Int × Int := ratOf (cw A f m) ((m.length : Int) + 1)
section
variable {x : List (List Int)} (h : isSq x = true) {f : Nat} {m : List Nat} (hc : Cy (ent x) x.length f m)
include h hc
theorem mn_bd : (-100000000 ≤ (mn (ent x) f m).1 ∧ (mn (ent x) f m).1 ≤ 100000000) ∧ (-1000000 ≤ (mn (ent x) f m).2 ∧ (mn (ent x) f m).2 ≤ 1000000) := by
  have h1 := cw_bd h hc
  have h2 := hc.len
  have h3 := (isSq_rect h).2.2
  exact ratOf_sm2 (by omega) (by omega)
omit h in
theorem mn_cycle : cycleO x (pathL f m) = some (cw (ent x) f m) := path_cycle hc.nd hc.lo hc.fk
/-- how a cycle weighs when it is shifted by the mean of another one -/
theorem cw_shift {g : Nat} {k : List Nat} (hl : lo x.length (g :: k)) : (Cy (ent (shiftM x (mn (ent x) f m).1 (mn (ent x) f m).2)) x.length g k ↔ Cy (ent x) x.length g k) ∧
    (fk (ent x) (g :: (k ++ [g])) → cw (ent (shiftM x (mn (ent x) f m).1 (mn (ent x) f m).2)) g k = (mn (ent x) f m).2 * cw (ent x) g k - (mn (ent x) f m).1 * ((k.length : Int) + 1)) := by
  have hb := mn_bd h hc
  have hl2 : lo x.length (g :: (k ++ [g])) := fun y hy => hl y (by
    simp only [List.mem_cons, List.mem_append, List.not_mem_nil, or_false] at hy ⊢
    rcases hy with h | h | h
    · exact .inl h
    · exact .inr h
    · exact .inl h)
  have hw := shift_walk h hb.1 hb.2 (k ++ [g]) g hl2
  refine ⟨⟨fun c => ⟨c.nd, c.lo, c.lt, hw.1.1 c.fk⟩, fun c => ⟨c.nd, c.lo, c.lt, hw.1.2 c.fk⟩⟩, fun hk => ?_⟩
  unfold cw
  rw [hw.2 hk]
  simp
omit h hc in
theorem mn_zero : (mn (ent x) f m).1 * ((m.length : Int) + 1) = cw (ent x) f m * (mn (ent x) f m).2 ∧ 0 < (mn (ent x) f m).2 ∧ gcdI (mn (ent x) f m).1 (mn (ent x) f m).2 = 1 := ratOf_low (by omega)
/-- nothing above the mean: it is the greatest -/
theorem best_of_none (hp : ∀ g k, Cy (ent (shiftM x (mn (ent x) f m).1 (mn (ent x) f m).2)) x.length g k → cw (ent (shiftM x (mn (ent x) f m).1 (mn (ent x) f m).2)) g k ≤ 0) : bestO x x.length = some (mn (ent x) f m) := by
  obtain ⟨z1, z2, z3⟩ := mn_zero (x := x) (f := f) (m := m)
  have hN : NoOver (ent x) x.length (mn (ent x) f m).2 (mn (ent x) f m).1 := by
    intro c t h1 h2
    refine Classical.byContradiction fun hcon => ?_
    obtain ⟨z, k, g1, g2, g3, g4, g5⟩ := simple_cycle t.length c t (Nat.le_refl _) h1 h2 (Int.not_le.1 hcon)
    have hcy : Cy (ent x) x.length z k := ⟨g1, g2, g3, g4⟩
    have hsh := cw_shift h hc hcy.lo
    have h3 := hp z k (hsh.1.2 hcy)
    rw [hsh.2 g4] at h3
    unfold cw at h3
    omega
  refine karp_best h z2 z3 hN (c := f) (t := m) ⟨hc.lo, hc.fk, ?_⟩
  unfold cw at z1
  rw [Int.mul_comm]; exact z1.symm
/-- a cycle that weighs nothing when shifted has the same mean -/
theorem mn_same {g : Nat} {k : List Nat} (hk : Cy (ent x) x.length g k) (h0 : cw (ent (shiftM x (mn (ent x) f m).1 (mn (ent x) f m).2)) g k = 0) : mn (ent x) g k = mn (ent x) f m := by
  obtain ⟨z1, z2, z3⟩ := mn_zero (x := x) (f := f) (m := m)
  obtain ⟨y1, y2, y3⟩ := mn_zero (x := x) (f := g) (m := k)
  rw [(cw_shift h hc hk.lo).2 hk.fk] at h0
  refine low_eq y2 z2 y3 z3 ?_
  have hL : (0 : Int) < (k.length : Int) + 1 := by omega
  refine Int.eq_of_mul_eq_mul_right (a := (k.length : Int) + 1) (by omega) ?_
  have e1 : (mn (ent x) g k).1 * (mn (ent x) f m).2 * ((k.length : Int) + 1) = (mn (ent x) f m).2 * ((mn (ent x) g k).1 * ((k.length : Int) + 1)) := by rw [Int.mul_comm _ (mn (ent x) f m).2, Int.mul_assoc]
  have e2 : (mn (ent x) f m).1 * (mn (ent x) g k).2 * ((k.length : Int) + 1) = (mn (ent x) g k).2 * ((mn (ent x) f m).1 * ((k.length : Int) + 1)) := by rw [Int.mul_comm _ (mn (ent x) g k).2, Int.mul_assoc]
  rw [e1, e2, y1]
  have e3 : (mn (ent x) f m).1 * ((k.length : Int) + 1) = (mn (ent x) f m).2 * cw (ent x) g k := by omega
  rw [e3]
  rw [Int.mul_comm (cw (ent x) g k), ← Int.mul_assoc, ← Int.mul_assoc, Int.mul_comm (mn (ent x) f m).2]
theorem mn_self : cw (ent (shiftM x (mn (ent x) f m).1 (mn (ent x) f m).2)) f m = 0 := by
  obtain ⟨z1, z2, z3⟩ := mn_zero (x := x) (f := f) (m := m)
  rw [(cw_shift h hc hc.lo).2 hc.fk, z1, Int.mul_comm]; omega
/-- the measure of the search -/
def zM (w : Int) (len : Int) : Int := w * (2520 / len)
omit hc in
theorem zM_inc {g : Nat} {k : List Nat} (hf : Cy (ent x) x.length f m) (hk : Cy (ent x) x.length g k) (h0 : 0 < cw (ent (shiftM x (mn (ent x) f m).1 (mn (ent x) f m).2)) g k) :
    zM (cw (ent x) f m) ((m.length : Int) + 1) < zM (cw (ent x) g k) ((k.length : Int) + 1) ∧ zM (cw (ent x) g k) ((k.length : Int) + 1) ≤ 2520000000 := by
  obtain ⟨z1, z2, z3⟩ := mn_zero (x := x) (f := f) (m := m)
  rw [(cw_shift h hf hk.lo).2 hk.fk] at h0
  have b1 := cw_bd h hk
  have l1 := hf.len
  have l2 := hk.len
  have l3 := (isSq_rect h).2.2
  generalize mn (ent x) f m = r at *
  have h1 : cw (ent x) f m * ((k.length : Int) + 1) < cw (ent x) g k * ((m.length : Int) + 1) := by
    refine Int.lt_of_mul_lt_mul_left (a := r.2) ?_ (Int.le_of_lt z2)
    have e1 : r.2 * (cw (ent x) f m * ((k.length : Int) + 1)) = (r.1 * ((k.length : Int) + 1)) * ((m.length : Int) + 1) := by
      rw [← Int.mul_assoc, Int.mul_comm r.2, ← z1, Int.mul_assoc, Int.mul_assoc, Int.mul_comm ((m.length : Int) + 1)]
    have e2 : r.2 * (cw (ent x) g k * ((m.length : Int) + 1)) = (r.2 * cw (ent x) g k) * ((m.length : Int) + 1) := by rw [Int.mul_assoc]
    rw [e1, e2]
    exact Int.mul_lt_mul_of_pos_right (by omega) (by omega)
  generalize cw (ent x) f m = a at *
  generalize cw (ent x) g k = b at *
  have hk1 : (k.length : Int) + 1 = 1 ∨ (k.length : Int) + 1 = 2 ∨ (k.length : Int) + 1 = 3 ∨ (k.length : Int) + 1 = 4 ∨ (k.length : Int) + 1 = 5 ∨ (k.length : Int) + 1 = 6 ∨ (k.length : Int) + 1 = 7 ∨ (k.length : Int) + 1 = 8 ∨ (k.length : Int) + 1 = 9 ∨ (k.length : Int) + 1 = 10 := by omega
  have hm1 : (m.length : Int) + 1 = 1 ∨ (m.length : Int) + 1 = 2 ∨ (m.length : Int) + 1 = 3 ∨ (m.length : Int) + 1 = 4 ∨ (m.length : Int) + 1 = 5 ∨ (m.length : Int) + 1 = 6 ∨ (m.length : Int) + 1 = 7 ∨ (m.length : Int) + 1 = 8 ∨ (m.length : Int) + 1 = 9 ∨ (m.length : Int) + 1 = 10 := by omega
  clear z1 h0 l1 l2
  generalize (k.length : Int) + 1 = K at *
  generalize (m.length : Int) + 1 = M at *
  unfold zM
  rcases hk1 with rfl | rfl | rfl | rfl | rfl | rfl | rfl | rfl | rfl | rfl <;> rcases hm1 with rfl | rfl | rfl | rfl | rfl | rfl | rfl | rfl | rfl | rfl <;> omega
end
end Go.Proofs.Ytljchmkoafahgaa
