/- Several texts in one: E16 K10 K11. -/
import Derived.Test.YtokhkpbebimohaaE15
import Derived.Test.YtokhkpbebimohaaGM
import Derived.Test.YtokhkpbebimohaaGB
import Derived.Test.YtokhkpbebimohaaGL
/- Contracts of CriticalArcs and CriticalMatrix, the program's and the reference's. Conditions: the forms of the matrices. -/
namespace Go.Proofs.Ytokhkpbebimohaa
set_option linter.unusedVariables false
set_option linter.unusedSimpArgs false
open Go.RowKit

theorem OwnI.lit2 (w : World) (x y : Int) : OwnI (w.alloc (.cells #[.int .i64 x, .int .i64 y] 2)) w.heap.size (.slice (some ⟨w.heap.size, 0, none⟩) 2 2) [x, y] :=
  World.ownsRow_lit w #[.int .i64 x, .int .i64 y] 2 (Nat.le_refl _) (by decide) rfl
/-- the arcs from j to the nodes below t, as lists of two; those from the nodes below k -/
def arcR (K : Nat → Nat → Bool) (j : Nat) : Nat → List (List Int)
  | 0 => []
  | t + 1 => if K t j then arcR K j t ++ [[(j : Int), (t : Int)]] else arcR K j t
def arcsM (K : Nat → Nat → Bool) (n : Nat) : Nat → List (List Int)
  | 0 => []
  | k + 1 => arcsM K n k ++ arcR K k n
theorem arcR_len (K : Nat → Nat → Bool) (j t : Nat) : (arcR K j t).length ≤ t := by
  induction t with
  | zero => exact Nat.le_refl _
  | succ t ih =>
    simp only [arcR]; split
    · rw [List.length_append]; simp; omega
    · omega
theorem arcsM_len (K : Nat → Nat → Bool) (n k : Nat) : (arcsM K n k).length ≤ k * n := by
  induction k with
  | zero => simp [arcsM]
  | succ k ih =>
    simp only [arcsM, List.length_append]
    have := arcR_len K k n
    rw [Nat.succ_mul]; omega
theorem arcR_mem {K : Nat → Nat → Bool} {j t : Nat} {l : List Int} : l ∈ arcR K j t ↔ ∃ i, i < t ∧ K i j = true ∧ l = [(j : Int), (i : Int)] := by
  induction t with
  | zero => simp [arcR]
  | succ t ih =>
    simp only [arcR]
    by_cases h : K t j = true
    · rw [if_pos h, List.mem_append, ih]
      constructor
      · rintro (⟨i, h1, h2, h3⟩ | h1)
        · exact ⟨i, by omega, h2, h3⟩
        · exact ⟨t, by omega, h, by simpa using h1⟩
      · rintro ⟨i, h1, h2, h3⟩
        by_cases e : i = t
        · subst e; right; simpa using h3
        · left; exact ⟨i, by omega, h2, h3⟩
    · rw [if_neg h, ih]
      constructor
      · rintro ⟨i, h1, h2, h3⟩; exact ⟨i, by omega, h2, h3⟩
      · rintro ⟨i, h1, h2, h3⟩
        by_cases e : i = t
        · subst e; exact absurd h2 h
        · exact ⟨i, by omega, h2, h3⟩
theorem arcsM_mem {K : Nat → Nat → Bool} {n k : Nat} {l : List Int} : l ∈ arcsM K n k ↔ ∃ i j, i < n ∧ j < k ∧ K i j = true ∧ l = [(j : Int), (i : Int)] := by
  induction k with
  | zero => simp [arcsM]
  | succ k ih =>
    simp only [arcsM, List.mem_append]
    rw [ih, arcR_mem]
    constructor
    · rintro (⟨i, j, h1, h2, h3, h4⟩ | ⟨i, h1, h2, h3⟩)
      · exact ⟨i, j, h1, by omega, h3, h4⟩
      · exact ⟨i, k, h1, by omega, h2, h3⟩
    · rintro ⟨i, j, h1, h2, h3, h4⟩
      by_cases e : j = k
      · subst e; right; exact ⟨i, h1, h3, h4⟩
      · left; exact ⟨i, j, h1, by omega, h3, h4⟩
/-- entry k of such a list -/
theorem arcsM_at {K : Nat → Nat → Bool} {n : Nat} {k : Nat} (hk : k < (arcsM K n n).length) : ∃ i j, i < n ∧ j < n ∧ K i j = true ∧ row (arcsM K n n) k = [(j : Int), (i : Int)] := by
  rw [row_of_lt hk]
  exact arcsM_mem.1 (List.getElem_mem hk)
theorem arcsM_tot (K : Nat → Nat → Bool) (n : Nat) (hn : n ≤ 10) : tot (arcsM K n n) ≤ 1000000 := by
  have hl := arcsM_len K n n
  have hm : n * n ≤ 100 := Nat.mul_le_mul hn hn
  have : ∀ (m : List (List Int)), (∀ l ∈ m, l.length = 2) → tot m ≤ m.length * 2 := by
    intro m
    induction m with
    | nil => intro _; simp [tot]
    | cons l m ih =>
      intro h
      have h1 := h l (by simp)
      have h2 := ih fun x hx => h x (by simp [hx])
      have e : tot (l :: m) = l.length + tot m := by simp [tot]
      rw [e, List.length_cons]; omega
  have h2 := this (arcsM K n n) fun l hl => by obtain ⟨i, j, _, _, _, rfl⟩ := arcsM_mem.1 hl; rfl
  omega
def keepX (x : List (List Int)) (R : Int × Int) (i j : Nat) : Bool := keepB (shiftM x R.1 R.2) (starM (shiftM x R.1 R.2) x.length) i j
def arcsV (x : List (List Int)) : List (List Int) × Int := if isSq x then (match bestO x x.length with | none => ([], 4) | some R => (arcsM (keepX x R) x.length x.length, 0)) else ([], 1)
theorem arcsV_tot (x : List (List Int)) : tot (arcsV x).1 ≤ 1000000 := by
  unfold arcsV
  split
  · rename_i h
    have := isSq_rect h
    split
    · simp [tot]
    · exact arcsM_tot _ _ (by omega)
  · simp [tot]

end Go.Proofs.Ytokhkpbebimohaa

/- Plain law: the indices that are kept, and the header of a list of lists behind a deletion. No program is entered. -/
namespace Go.Proofs.Ytokhkpbebimohaa
set_option linter.unusedVariables false
open Go.RowKit

/-- the indices below j that are not struck -/
def keptI (q : Nat → Bool) : Nat → List Nat
  | 0 => []
  | j + 1 => if q j then keptI q j else keptI q j ++ [j]
theorem keptI_len (q : Nat → Bool) (j : Nat) : (keptI q j).length ≤ j := by
  induction j with
  | zero => exact Nat.le_refl _
  | succ j ih =>
    simp only [keptI]; split
    · omega
    · rw [List.length_append]; simp; omega
theorem keptI_mem {q : Nat → Bool} {j t : Nat} : t ∈ keptI q j ↔ t < j ∧ q t = false := by
  induction j with
  | zero => simp [keptI]
  | succ j ih =>
    simp only [keptI]
    by_cases h : q j = true
    · rw [if_pos h, ih]
      constructor
      · rintro ⟨h1, h2⟩; exact ⟨by omega, h2⟩
      · rintro ⟨h1, h2⟩
        refine ⟨?_, h2⟩
        by_cases e : t = j
        · subst e; rw [h] at h2; cases h2
        · omega
    · rw [if_neg h, List.mem_append, ih]
      simp only [List.mem_singleton]
      constructor
      · rintro (⟨h1, h2⟩ | rfl)
        · exact ⟨by omega, h2⟩
        · exact ⟨by omega, by simpa using h⟩
      · rintro ⟨h1, h2⟩
        by_cases e : t = j
        · exact .inr e
        · exact .inl ⟨by omega, h2⟩
theorem keptI_nodup (q : Nat → Bool) (j : Nat) : (keptI q j).Nodup := by
  induction j with
  | zero => exact List.nodup_nil
  | succ j ih =>
    simp only [keptI]; split
    · exact ih
    · rw [List.nodup_append]
      refine ⟨ih, by simp, fun a ha b hb => ?_⟩
      simp only [List.mem_singleton] at hb
      have := (keptI_mem.1 ha).1
      omega
theorem keptI_all {q : Nat → Bool} {j : Nat} (h : ∀ t, t < j → q t = false) : keptI q j = List.range j := by
  induction j with
  | zero => rfl
  | succ j ih =>
    simp only [keptI]
    rw [h j (by omega), ih fun t ht => h t (by omega), List.range_succ]; rfl
theorem keptI_rows (p : List Int → Bool) (m : List (List Int)) : ∀ j, j ≤ m.length → (m.take j).filter (fun c => !p c) = (keptI (fun t => p (row m t)) j).map (row m) := by
  intro j
  induction j with
  | zero => intro _; rfl
  | succ j ih =>
    intro hj
    have e : m.take (j + 1) = m.take j ++ [row m j] := by
      rw [List.take_add_one, row_of_lt (by omega), List.getElem?_eq_getElem (by omega)]; rfl
    rw [e, List.filter_append, ih (by omega)]
    simp only [keptI]
    by_cases h : p (row m j) = true
    · rw [if_pos h]; simp [h]
    · rw [if_neg h]; simp [h]
theorem keptI_get {q : Nat → Bool} {j t : Nat} (ht : t < (keptI q j).length) : (keptI q j).getD t 0 = (keptI q j)[t] ∧ (keptI q j).getD t 0 < j ∧ q ((keptI q j).getD t 0) = false := by
  have e : (keptI q j).getD t 0 = (keptI q j)[t] := by simp [ht]
  have := keptI_mem.1 (List.getElem_mem ht)
  rw [e]; exact ⟨rfl, this.1, this.2⟩

/-- the header behind a deletion: the first cells are those of the list K, those from j on are as they were -/
structure Hd (w0 w : World) (g cap len : Nat) (A : Nat → Option Addr) (L C : Nat → Nat) (K : List Nat) (j : Nat) : Prop where
  chg : Chg (fun b => b = g) w0 w
  hdr : ∃ c : Array Value, w.heap[g]? = some (.cells c 34 (0, 0)) ∧ c.size = cap ∧ (∀ t, t < K.length → c[t]? = some (.slice (A (K.getD t 0)) (L (K.getD t 0)) (C (K.getD t 0)))) ∧ (∀ t, j ≤ t → t < len → c[t]? = some (.slice (A t) (L t) (C t)))
section
variable {w0 w : World} {g cap len : Nat} {A : Nat → Option Addr} {L C : Nat → Nat} {K : List Nat} {j : Nat}
theorem Hd.hi (h : Hd w0 w g cap len A L C K j) {t : Nat} (h1 : j ≤ t) (h2 : t < len) : w.cell? ⟨g, t, none⟩ = some (.slice (A t) (L t) (C t)) := by
  obtain ⟨c, h3, _, _, h4⟩ := h.hdr
  simp [World.cell?, h3, h4 t h1 h2]
theorem Hd.frozen (h : Hd w0 w g cap len A L C K j) (t : Nat) : w.frozen? ⟨g, t, none⟩ = false := by
  obtain ⟨c, h3, _⟩ := h.hdr
  simp [World.frozen?, h3]
theorem Hd.there (h : Hd w0 w g cap len A L C K j) {t : Nat} (ht : t < cap) : (w.cell? ⟨g, t, none⟩).isSome = true := by
  obtain ⟨c, h3, h4, _⟩ := h.hdr
  have : t < c.size := by omega
  simp [World.cell?, h3, this]
theorem Hd.skip (h : Hd w0 w g cap len A L C K j) : Hd w0 w g cap len A L C K (j + 1) := by
  obtain ⟨c, h1, h2, h3, h4⟩ := h.hdr
  exact ⟨h.chg, c, h1, h2, h3, fun t a b => h4 t (by omega) b⟩
theorem Hd.keep (h : Hd w0 w g cap len A L C K j) (hj : j < len) (hK : K.length ≤ j) (hl : len ≤ cap) : Hd w0 (w.setCell ⟨g, K.length, none⟩ (.slice (A j) (L j) (C j))) g cap len A L C (K ++ [j]) (j + 1) := by
  obtain ⟨c, h1, h2, h3, h4⟩ := h.hdr
  refine ⟨h.chg.trans ((Chg.set _ _ _).mono fun b e => e), c.setIfInBounds K.length (.slice (A j) (L j) (C j)), by simp [World.setCell, Array.getElem?_modify, h1], by simpa using h2, fun t ht => ?_, fun t a b => ?_⟩
  · have hs : K.length < c.size := by omega
    rw [Array.getElem?_setIfInBounds]
    by_cases e : K.length = t
    · subst e
      simp [hs]
    · have ht2 : t < K.length := by simp at ht; omega
      rw [if_neg e, h3 t ht2]
      simp [ht2, List.getElem?_append_left ht2]
  · rw [Array.getElem?_setIfInBounds, if_neg (by omega)]
    exact h4 t (by omega) b
theorem Hd.cells (hl : K.length ≤ j) : ∀ (vs : List Value) (o : Nat) (w : World), K.length ≤ o → Hd w0 w g cap len A L C K len → Hd w0 (w.setCells g o vs) g cap len A L C K len
  | [], o, w, _, h => h
  | v :: vs, o, w, ho, h => by
    refine Hd.cells hl vs (o + 1) _ (by omega) ?_
    obtain ⟨c, h1, h2, h3, h4⟩ := h.hdr
    refine ⟨h.chg.trans ((Chg.set _ _ _).mono fun b e => e), c.setIfInBounds o v, by simp [World.setCell, Array.getElem?_modify, h1], by simpa using h2, fun t ht => ?_, fun t a b => absurd b (by omega)⟩
    rw [Array.getElem?_setIfInBounds, if_neg (by omega)]; exact h3 t ht
end
theorem Mat.hd {w : World} {B g cap : Nat} {A : Nat → Option Addr} {C : Nat → Nat} {m : List (List Int)} (h : Mat w B g cap A C m) {k : Nat} (hk : k ≤ m.length) : Hd w w g cap m.length A (fun t => (row m t).length) C (List.range k) k := by
  obtain ⟨c, h1, h2, h3⟩ := h.hdr
  refine ⟨Chg.refl _ _, c, h1, h2, fun t ht => ?_, fun t _ ht => h3 t ht⟩
  have ht' : t < k := by simpa using ht
  have e : (List.range k).getD t 0 = t := by simp [ht']
  rw [e]; exact h3 t (by omega)
/-- the list behind the deletion -/
theorem Hd.mat {w0 w : World} {B g cap : Nat} {A : Nat → Option Addr} {C : Nat → Nat} {m : List (List Int)} (hM : Mat w0 B g cap A C m) {p : List Int → Bool} (h : Hd w0 w g cap m.length A (fun t => (row m t).length) C (keptI (fun t => p (row m t)) m.length) m.length) :
    OwnM w B (.slice (some ⟨g, 0, none⟩) (m.filter fun c => !p c).length cap) (m.filter fun c => !p c) := by
  have hrows := keptI_rows p m m.length (Nat.le_refl _)
  rw [List.take_length] at hrows
  have hnd := keptI_nodup (fun t => p (row m t)) m.length
  have hget := fun t ht => keptI_get (q := fun t => p (row m t)) (j := m.length) (t := t) ht
  have hlen := keptI_len (fun t => p (row m t)) m.length
  generalize keptI (fun t => p (row m t)) m.length = K at *
  have hl : (m.filter fun c => !p c).length = K.length := by rw [hrows, List.length_map]
  have hrow : ∀ t, t < K.length → row (m.filter fun c => !p c) t = row m (K.getD t 0) := fun t ht => by
    rw [row_of_lt (by rw [hl]; exact ht)]
    simp only [hrows]
    rw [List.getElem_map, (hget t ht).1]
  obtain ⟨c, h1, h2, h3, _⟩ := h.hdr
  refine .inr ⟨g, cap, fun t => A (K.getD t 0), fun t => C (K.getD t 0), rfl, ⟨⟨c, h1, h2, fun t ht => ?_⟩, hM.hB, ?_, hM.mx, fun t ht => ?_, fun t r o ht => ?_, fun t t' r o o' ht ht' hne => ?_⟩⟩
  · rw [hl] at ht
    rw [hrow t ht]; exact h3 t ht
  · have := hM.le; omega
  · rw [hl] at ht
    rw [hrow t ht]
    refine (hM.own _ (hget t ht).2.1).agree fun k hk => h.chg.block k ?_
    intro e
    subst e
    rcases (hM.own _ (hget t ht).2.1).form with ⟨e1, _⟩ | ⟨r', cap', e1, _⟩
    · rw [e1] at hk; simp [Value.ownBlock] at hk
    · rw [e1] at hk
      simp only [Value.ownBlock, Option.some.injEq] at hk
      simp only [Value.slice.injEq] at e1
      exact hM.ne _ r' 0 (hget t ht).2.1 e1.1 hk
  · rw [hl] at ht; exact hM.ne _ r o (hget t ht).2.1
  · rw [hl] at ht ht'
    refine hM.dj _ _ r o o' (hget t ht).2.1 (hget t' ht').2.1 fun e => hne ?_
    rw [(hget t ht).1, (hget t' ht').1] at e
    exact (List.getElem_inj hnd).1 e
end Go.Proofs.Ytokhkpbebimohaa

/- Plain law: which components of the critical arcs are kept. No program is entered. -/
namespace Go.Proofs.Ytokhkpbebimohaa
set_option linter.unusedVariables false

theorem ownC_mem {K : Nat → Nat → Bool} {i j : Nat} {v : Int} : v ∈ ownC K i j ↔ ∃ u, u < j ∧ v = (u : Int) ∧ (K i u && K u i) = true := by
  induction j with
  | zero => simp [ownC]
  | succ j ih =>
    have e : ownC K i (j + 1) = if K i j && K j i then ownC K i j ++ [(j : Int)] else ownC K i j := rfl
    rw [e]
    by_cases h : (K i j && K j i) = true
    · rw [if_pos h, List.mem_append, ih]
      constructor
      · rintro (⟨u, h1, h2, h3⟩ | h1)
        · exact ⟨u, by omega, h2, h3⟩
        · exact ⟨j, by omega, by simpa using h1, h⟩
      · rintro ⟨u, h1, h2, h3⟩
        by_cases e : u = j
        · subst e; right; simpa using h2
        · left; exact ⟨u, by omega, h2, h3⟩
    · rw [if_neg h, ih]
      constructor
      · rintro ⟨u, h1, h2, h3⟩; exact ⟨u, by omega, h2, h3⟩
      · rintro ⟨u, h1, h2, h3⟩
        by_cases e : u = j
        · subst e; exact absurd h3 h
        · exact ⟨u, by omega, h2, h3⟩
theorem ownC_single {K : Nat → Nat → Bool} {i n : Nat} (hr : K i i = true) (h : ∀ u, u < n → (K i u && K u i) = true → u = i) : ∀ j, j ≤ n → ownC K i j = if i < j then [(i : Int)] else [] := by
  intro j
  induction j with
  | zero => intro _; rfl
  | succ j ih =>
    intro hj
    have e : ownC K i (j + 1) = if K i j && K j i then ownC K i j ++ [(j : Int)] else ownC K i j := rfl
    rw [e, ih (by omega)]
    by_cases h2 : (K i j && K j i) = true
    · obtain rfl := h j (by omega) h2
      rw [if_pos h2, if_neg (by omega), if_pos (by omega)]; rfl
    · have hne : i ≠ j := by rintro rfl; exact h2 (by rw [hr]; rfl)
      rw [if_neg h2]
      by_cases h3 : i < j
      · rw [if_pos h3, if_pos (by omega)]
      · rw [if_neg h3, if_neg (by omega)]
theorem compsM_mem {K : Nat → Nat → Bool} {n k : Nat} {c : List Int} : c ∈ compsM K n k ↔ ∃ i, i < k ∧ c = ownC K i n ∧ nth c 0 = (i : Int) := by
  induction k with
  | zero => simp [compsM]
  | succ k ih =>
    have e : compsM K n (k + 1) = if nth (ownC K k n) 0 = (k : Int) then compsM K n k ++ [ownC K k n] else compsM K n k := rfl
    rw [e]
    by_cases h : nth (ownC K k n) 0 = (k : Int)
    · rw [if_pos h, List.mem_append, ih]
      constructor
      · rintro (⟨i, h1, h2, h3⟩ | h1)
        · exact ⟨i, by omega, h2, h3⟩
        · simp only [List.mem_singleton] at h1
          subst h1; exact ⟨k, by omega, rfl, h⟩
      · rintro ⟨i, h1, h2, h3⟩
        by_cases e : i = k
        · subst e; right; simpa using h2
        · left; exact ⟨i, by omega, h2, h3⟩
    · rw [if_neg h, ih]
      constructor
      · rintro ⟨i, h1, h2, h3⟩; exact ⟨i, by omega, h2, h3⟩
      · rintro ⟨i, h1, h2, h3⟩
        by_cases e : i = k
        · subst e; subst h2; exact absurd h3 h
        · exact ⟨i, by omega, h2, h3⟩
/-- is a component struck: one node without an arc to itself -/
def delB (Y : List (List Int)) (c : List Int) : Bool := c.length == 1 && ent Y (nth c 0).toNat (nth c 0).toNat == -1000000000000000
/-- the first nodes of the first k lists, each once -/
def nodesR (L : List (List Int)) : Nat → List Int
  | 0 => []
  | k + 1 => if has (nodesR L k) (ent L k 0) then nodesR L k else nodesR L k ++ [ent L k 0]
theorem has_mem {xs : List Int} {v : Int} : has xs v = true ↔ v ∈ xs := by unfold has; rw [List.contains_iff_mem]
theorem nodesR_mem {L : List (List Int)} {k : Nat} {v : Int} : v ∈ nodesR L k ↔ ∃ t, t < k ∧ ent L t 0 = v := by
  induction k with
  | zero => simp [nodesR]
  | succ k ih =>
    simp only [nodesR]
    by_cases h : has (nodesR L k) (ent L k 0) = true
    · rw [if_pos h, ih]
      constructor
      · rintro ⟨t, h1, h2⟩; exact ⟨t, by omega, h2⟩
      · rintro ⟨t, h1, h2⟩
        by_cases e : t = k
        · subst e
          rw [has_mem, h2, ih] at h
          exact h
        · exact ⟨t, by omega, h2⟩
    · rw [if_neg h, List.mem_append, ih]
      constructor
      · rintro (⟨t, h1, h2⟩ | h1)
        · exact ⟨t, by omega, h2⟩
        · exact ⟨k, by omega, (List.mem_singleton.1 h1).symm⟩
      · rintro ⟨t, h1, h2⟩
        by_cases e : t = k
        · subst e; right; simpa using h2.symm
        · left; exact ⟨t, by omega, h2⟩
theorem nodesR_len (L : List (List Int)) (k : Nat) : (nodesR L k).length ≤ k := by
  induction k with
  | zero => exact Nat.le_refl _
  | succ k ih =>
    simp only [nodesR]; split
    · omega
    · rw [List.length_append]; simp; omega
def nodesX (x : List (List Int)) (R : Int × Int) : List Int := nodesR (arcsM (keepX x R) x.length x.length) (arcsM (keepX x R) x.length x.length).length
theorem nodesX_has {x : List (List Int)} {R : Int × Int} {j : Nat} : has (nodesX x R) (j : Int) = true ↔ ∃ i, i < x.length ∧ j < x.length ∧ keepX x R i j = true := by
  unfold nodesX
  rw [has_mem, nodesR_mem]
  constructor
  · rintro ⟨t, ht, e⟩
    obtain ⟨i, j', h1, h2, h3, h4⟩ := arcsM_at ht
    unfold ent at e
    rw [h4] at e
    have e : (j' : Int) = (j : Int) := e
    obtain rfl : j' = j := by omega
    exact ⟨i, h1, h2, h3⟩
  · rintro ⟨i, h1, h2, h3⟩
    have hm : [(j : Int), (i : Int)] ∈ arcsM (keepX x R) x.length x.length := arcsM_mem.2 ⟨i, j, h1, h2, h3, rfl⟩
    obtain ⟨t, ht, e⟩ := List.getElem_of_mem hm
    exact ⟨t, ht, by unfold ent; rw [row_of_lt ht, e]; rfl⟩
theorem last_arc {Y : List (List Int)} {n : Nat} : ∀ (m : List Nat) (u i : Nat), u < n → lo n m → wk (zA Y) u m i → ∃ k, k < n ∧ ent Y k i ≠ -1000000000000000
  | [], u, i, hu, _, h => ⟨u, hu, zA_ne.1 h⟩
  | y :: m, u, i, hu, hl, h => last_arc m y i (lo_cons.1 hl).1 (lo_cons.1 hl).2 h.2
section
variable {x : List (List Int)} (h : isSq x = true) {R : Int × Int} (hb : bestO x x.length = some R)
include h hb
theorem del_nodes {c : List Int} (hc : c ∈ compsM (wB (critM x R) x.length) x.length x.length) : delB (critM x R) c = !has (nodesX x R) (nth c 0) := by
  obtain ⟨i, hi, rfl, h0⟩ := compsM_mem.1 hc
  have hrefl := wB_refl (critM x R) x.length i
  have hii : (i : Int) ∈ ownC (wB (critM x R) x.length) i x.length := ownC_mem.2 ⟨i, hi, rfl, by rw [hrefl]; rfl⟩
  unfold delB
  rw [h0]
  have e1 : ((i : Int)).toNat = i := rfl
  rw [e1]
  by_cases hk : has (nodesX x R) (i : Int) = true
  · rw [hk]
    obtain ⟨i', h1, _, h3⟩ := nodesX_has.1 hk
    have hce := (crit_ne h hb h1 hi).2 h3
    obtain ⟨r1, r2⟩ := crit_back h hb h1 hi hce
    have w1 := (wB_iff hi h1).2 r2
    have w2 := (wB_iff h1 hi).2 r1
    have hmem : (i' : Int) ∈ ownC (wB (critM x R) x.length) i x.length := ownC_mem.2 ⟨i', h1, rfl, by rw [w1, w2]; rfl⟩
    by_cases hl : (ownC (wB (critM x R) x.length) i x.length).length = 1
    · obtain ⟨v, hv⟩ := List.length_eq_one_iff.1 hl
      rw [hv] at hii hmem
      simp only [List.mem_singleton] at hii hmem
      obtain rfl : i' = i := by omega
      simp [hce]
    · simp [hl]
  · have hk' : has (nodesX x R) (i : Int) = false := by simpa using hk
    rw [hk']
    have hno : ∀ k, k < x.length → ent (critM x R) k i = -1000000000000000 := fun k hk2 => Classical.byContradiction fun hne => hk (nodesX_has.2 ⟨k, hk2, hi, (crit_ne h hb hk2 hi).1 hne⟩)
    have hone : ∀ u, u < x.length → (wB (critM x R) x.length i u && wB (critM x R) x.length u i) = true → u = i := fun u hu hw => by
      rw [Bool.and_eq_true] at hw
      rcases (wB_iff hi hu).1 hw.1 with e | ⟨m, m1, m2⟩
      · exact e.symm
      · obtain ⟨k, k1, k2⟩ := last_arc m u i hu m1 m2
        exact absurd (hno k k1) k2
    rw [ownC_single hrefl hone x.length (Nat.le_refl _), if_pos hi, hno i hi]
    rfl
/-- the components of the critical arcs, as both sides keep them -/
theorem comps_same : (compsM (wB (critM x R) x.length) x.length x.length).filter (fun c => !delB (critM x R) c) = (compsM (wB (critM x R) x.length) x.length x.length).filter (fun c => !!has (nodesX x R) (nth c 0)) :=
  List.filter_congr fun c hc => by rw [del_nodes h hb hc]
end
def critCs (x : List (List Int)) (R : Int × Int) : List (List Int) := (compsM (wB (critM x R) x.length) x.length x.length).filter (fun c => !delB (critM x R) c)
theorem tot_filter (p : List Int → Bool) (m : List (List Int)) : tot (m.filter p) ≤ tot m := by
  induction m with
  | nil => exact Nat.le_refl _
  | cons a m ih =>
    have e : tot (a :: m) = a.length + tot m := by simp [tot]
    by_cases hp : p a = true
    · rw [List.filter_cons_of_pos hp]
      have e2 : tot (a :: m.filter p) = a.length + tot (m.filter p) := by simp [tot]
      omega
    · rw [List.filter_cons_of_neg hp]; omega
def critCsV (x : List (List Int)) : List (List Int) × Int := if isSq x then (match bestO x x.length with | none => ([], 4) | some R => (critCs x R, 0)) else ([], 1)
theorem critCsV_tot (x : List (List Int)) : tot (critCsV x).1 ≤ 1000000 := by
  unfold critCsV
  split
  · rename_i h
    have hl := isSq_rect h
    split
    · simp [tot]
    · have h1 := compsM_tot (wB (critM x ‹Int × Int›) x.length) x.length x.length
      have h2 : x.length * x.length ≤ 10 * 10 := Nat.mul_le_mul hl.2.2 hl.2.2
      have h3 := tot_filter (fun c => !delB (critM x ‹Int × Int›) c) (compsM (wB (critM x ‹Int × Int›) x.length) x.length x.length)
      simp only [critCs]
      omega
  · simp [tot]
end Go.Proofs.Ytokhkpbebimohaa
