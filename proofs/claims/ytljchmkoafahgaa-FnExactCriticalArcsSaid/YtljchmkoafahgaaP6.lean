/- Plain law: the two ways to weigh a cycle agree. -/
import Derived.Test.YtljchmkoafahgaaP5
namespace Go.Proofs.Ytljchmkoafahgaa
set_option linter.unusedVariables false

def sumTo (f : Nat → Int) : Nat → Int
  | 0 => 0
  | k + 1 => sumTo f k + f k
theorem sumTo_congr {f g : Nat → Int} {k : Nat} (h : ∀ i, i < k → f i = g i) : sumTo f k = sumTo g k := by
  induction k with
  | zero => rfl
  | succ k ih => simp only [sumTo]; rw [ih fun i hi => h i (by omega), h k (by omega)]
theorem sumTo_shift (f : Nat → Int) (k : Nat) : sumTo f (k + 1) = f 0 + sumTo (fun i => f (i + 1)) k := by
  induction k with
  | zero => simp [sumTo]
  | succ k ih => rw [sumTo, ih]; simp only [sumTo]; omega

def arcC (a : List (List Int)) (xs : List Int) (i : Nat) : Int := ent a (nth xs i).toNat (before xs i).toNat
def arcW (a : List (List Int)) (xs : List Int) (i : Nat) : Int := ent a (nth xs (i + 1)).toNat (nth xs i).toNat
theorem cycO_all {a : List (List Int)} {xs : List Int} {k : Nat} (h : ∀ i, i < k → stepOk a xs i = true) : cycO a xs k = some (sumTo (arcC a xs) k) := by
  induction k with
  | zero => rfl
  | succ k ih => simp only [cycO]; rw [ih fun i hi => h i (by omega), h k (by omega)]; rfl
theorem cycO_not {a : List (List Int)} {xs : List Int} {k i : Nat} (hi : i < k) (h : stepOk a xs i = false) : cycO a xs k = none := by
  have h1 : cycO a xs (i + 1) = none := by
    simp only [cycO]
    split
    · rfl
    · rw [h]; simp
  have := cycO_none h1 (k - (i + 1))
  rwa [show i + 1 + (k - (i + 1)) = k by omega] at this
theorem walkO_all {a : List (List Int)} {xs : List Int} {k : Nat} (h : ∀ i, i < k → arcW a xs i ≠ -1000000000000000) : walkO a xs k = some (sumTo (arcW a xs) k) := by
  induction k with
  | zero => rfl
  | succ k ih =>
    simp only [walkO]
    rw [ih fun i hi => h i (by omega)]
    have := h k (by omega)
    unfold arcW at this
    simp only
    rw [if_neg this]; rfl
theorem walkO_not {a : List (List Int)} {xs : List Int} {k i : Nat} (hi : i < k) (h : arcW a xs i = -1000000000000000) : walkO a xs k = none := by
  have h1 : walkO a xs (i + 1) = none := by
    unfold arcW at h
    simp only [walkO]
    split
    · rfl
    · rw [if_pos h]
  have := walkO_none h1 (k - (i + 1))
  rwa [show i + 1 + (k - (i + 1)) = k by omega] at this

/-- no element comes twice -/
def once (xs : List Int) : Prop := ∀ i, i < xs.length → (xs.take i).contains (nth xs i) = false
def sCyc (a : List (List Int)) (xs : List Int) : Option Int := walkO a (xs ++ [nth xs 0]) xs.length
theorem nth_app1 {xs : List Int} {y : Int} {i : Nat} (h : i < xs.length) : nth (xs ++ [y]) i = nth xs i := by
  unfold nth; simp [List.getD_eq_getElem?_getD, List.getElem?_append_left h]
theorem nth_app2 {xs : List Int} {y : Int} : nth (xs ++ [y]) xs.length = y := by
  unfold nth; simp [List.getD_eq_getElem?_getD]
theorem before_node {n : Nat} {xs : List Int} (h : nodes n xs = true) {i : Nat} (hi : i < xs.length) : inR (before xs i) 0 ((n : Int) - 1) = true := by
  unfold before; split
  · exact inR_iff.2 (nodes_iff.1 h _ (by omega))
  · exact inR_iff.2 (nodes_iff.1 h _ (by omega))
theorem stepOk_arc {a : List (List Int)} {xs : List Int} (h : nodes a.length xs = true) (ho : once xs) {i : Nat} (hi : i < xs.length) : stepOk a xs i = !(arcC a xs i == -1000000000000000) := by
  unfold stepOk arcC
  rw [before_node h hi, inR_iff.2 (nodes_iff.1 h i hi), ho i hi]; simp
theorem cycle_bad1 {a : List (List Int)} {xs : List Int} (h : nodes a.length xs = false) : cycleO a xs = none := by
  unfold cycleO; split
  · rfl
  · have : ¬ ∀ i, i < xs.length → 0 ≤ nth xs i ∧ nth xs i ≤ (a.length : Int) - 1 := fun e => by rw [nodes_iff.2 e] at h; cases h
    obtain ⟨i, hi⟩ := Classical.not_forall.1 this
    obtain ⟨hi, hn⟩ := Classical.not_imp.1 hi
    refine cycO_not hi ?_
    unfold stepOk
    have : inR (nth xs i) 0 ((a.length : Int) - 1) = false := by
      cases e : inR (nth xs i) 0 ((a.length : Int) - 1)
      · rfl
      · exact absurd (inR_iff.1 e) hn
    rw [this]; simp
theorem cycle_bad2 {a : List (List Int)} {xs : List Int} {i : Nat} (hi : i < xs.length) (h : (xs.take i).contains (nth xs i) = true) : cycleO a xs = none := by
  unfold cycleO; split
  · rfl
  · refine cycO_not hi ?_
    unfold stepOk; rw [h]; simp
theorem cycle_good {a : List (List Int)} {xs : List Int} (h0 : 0 < xs.length) (h : nodes a.length xs = true) (ho : once xs) : cycleO a xs = sCyc a xs := by
  unfold cycleO sCyc
  rw [if_neg (by omega)]
  have e1 : ∀ i, i + 1 < xs.length → arcW a (xs ++ [nth xs 0]) i = arcC a xs (i + 1) := fun i hi => by
    unfold arcW arcC before
    rw [nth_app1 hi, nth_app1 (by omega), if_neg (by omega)]; rfl
  have e2 : arcW a (xs ++ [nth xs 0]) (xs.length - 1) = arcC a xs 0 := by
    unfold arcW arcC before
    rw [show xs.length - 1 + 1 = xs.length by omega, nth_app2, nth_app1 (by omega), if_pos rfl]
  by_cases hall : ∀ i, i < xs.length → arcC a xs i ≠ -1000000000000000
  · rw [cycO_all fun i hi => by rw [stepOk_arc h ho hi]; simpa using hall i hi]
    rw [walkO_all fun i hi => by
      by_cases e : i + 1 < xs.length
      · rw [e1 i e]; exact hall _ e
      · rw [show i = xs.length - 1 by omega, e2]; exact hall 0 h0]
    congr 1
    obtain ⟨n, hn⟩ : ∃ n, xs.length = n + 1 := ⟨xs.length - 1, by omega⟩
    rw [hn, sumTo_shift, sumTo, sumTo_congr (f := arcW a (xs ++ [nth xs 0])) (g := fun i => arcC a xs (i + 1)) fun i hi => e1 i (by omega)]
    rw [show n = xs.length - 1 by omega, e2]; omega
  · obtain ⟨i, hi⟩ := Classical.not_forall.1 hall
    obtain ⟨hi, hn⟩ := Classical.not_imp.1 hi
    have hn := Classical.not_not.1 hn
    rw [cycO_not hi (by rw [stepOk_arc h ho hi, hn]; rfl)]
    cases i with
    | zero => rw [walkO_not (i := xs.length - 1) (by omega) (by rw [e2]; exact hn)]
    | succ i => rw [walkO_not (i := i) (by omega) (by rw [e1 i hi]; exact hn)]

theorem has_iff {xs : List Int} {x : Int} : xs.contains x = true ↔ ∃ i, i < xs.length ∧ nth xs i = x := by
  rw [List.contains_iff_mem]
  constructor
  · intro h; obtain ⟨i, hi, e⟩ := List.getElem_of_mem h; exact ⟨i, hi, by rw [nth_of_lt hi]; exact e⟩
  · rintro ⟨i, hi, rfl⟩; rw [nth_of_lt hi]; exact List.getElem_mem hi
theorem has_no {xs : List Int} {x : Int} (h : ∀ i, i < xs.length → nth xs i ≠ x) : xs.contains x = false := by
  cases e : xs.contains x
  · rfl
  · obtain ⟨i, hi, e⟩ := has_iff.1 e; exact absurd e (h i hi)
theorem nth_take {xs : List Int} {i k : Nat} (h : i < k) : nth (xs.take k) i = nth xs i := by
  unfold nth; simp [List.getD_eq_getElem?_getD, h]
end Go.Proofs.Ytljchmkoafahgaa
