/- Plain law of the texts of matrices: cutting at a byte, and joining. No program in sight, no condition. -/
import Derived.Test.YtkipbfjkcdccjaaDoorT4
import Derived.Lib.Split
import Derived.Lib.SplitLaws
import Derived.Lib.Join
namespace Go.Proofs.YtkipbfjkcdccjaaDoor
set_option linter.unusedVariables false
set_option linter.unusedSimpArgs false

/-- cut at every byte c -/
def spl (c : UInt8) : List UInt8 → List (List UInt8)
  | [] => [[]]
  | b :: r => if b = c then [] :: spl c r else (b :: (spl c r).headD []) :: (spl c r).tail
theorem spl_nil (c : UInt8) : spl c [] = [[]] := rfl
theorem spl_hit (c : UInt8) (r : List UInt8) : spl c (c :: r) = [] :: spl c r := by simp [spl]
theorem spl_miss {b c : UInt8} (h : b ≠ c) (r : List UInt8) : spl c (b :: r) = (b :: (spl c r).headD []) :: (spl c r).tail := by simp [spl, h]
theorem spl_cons (c : UInt8) (l : List UInt8) : ∃ h t, spl c l = h :: t := by
  cases l with
  | nil => exact ⟨_, _, rfl⟩
  | cons b r =>
    by_cases h : b = c
    · subst h; exact ⟨_, _, spl_hit _ _⟩
    · exact ⟨_, _, spl_miss h r⟩
theorem spl_cut {c : UInt8} : ∀ (p r : List UInt8), (∀ x ∈ p, x ≠ c) → spl c (p ++ c :: r) = p :: spl c r
  | [], r, _ => spl_hit c r
  | b :: p, r, h => by
    rw [List.cons_append, spl_miss (h b List.mem_cons_self), spl_cut p r fun x hx => h x (List.mem_cons_of_mem _ hx)]
    rfl
theorem spl_last {c : UInt8} : ∀ (p : List UInt8), (∀ x ∈ p, x ≠ c) → spl c p = [p]
  | [], _ => rfl
  | b :: p, h => by
    rw [spl_miss (h b List.mem_cons_self), spl_last p fun x hx => h x (List.mem_cons_of_mem _ hx)]
    rfl
theorem spl_lens (c : UInt8) : ∀ l : List UInt8, Lib.lens (spl c l) + (spl c l).length = l.length + 1
  | [] => rfl
  | b :: r => by
    have ih := spl_lens c r
    obtain ⟨h, t, e⟩ := spl_cons c r
    rw [e] at ih
    simp only [Lib.lens, List.map_cons, List.sum_cons, List.length_cons] at ih
    by_cases hb : b = c
    · subst hb
      rw [spl_hit, e]
      simp only [Lib.lens, List.map_cons, List.sum_cons, List.length_cons, List.length_nil]
      omega
    · rw [spl_miss hb, e]
      simp only [Lib.lens, List.map_cons, List.sum_cons, List.length_cons, List.headD_cons, List.tail_cons]
      omega
theorem spl_count (c : UInt8) (l : List UInt8) : (spl c l).length ≤ l.length + 1 := by have := spl_lens c l; omega
theorem spl_len_le {c : UInt8} {l : List UInt8} {K : Nat} (h : ∀ p ∈ spl c l, p.length + 1 ≤ K) : l.length + 1 ≤ K * (spl c l).length := by
  rw [← spl_lens c l]
  generalize spl c l = ss at h
  induction ss with
  | nil => simp [Lib.lens]
  | cons p ss ih =>
    have h1 := h p List.mem_cons_self
    have h2 := ih fun q hq => h q (List.mem_cons_of_mem _ hq)
    simp only [Lib.lens, List.map_cons, List.sum_cons, List.length_cons] at h2 ⊢
    rw [Nat.mul_succ]; omega
theorem join_two (p q : List UInt8) (r : List (List UInt8)) (c : UInt8) : Lib.join (p :: q :: r) [c] = p ++ c :: Lib.join (q :: r) [c] := by
  rw [Lib.join_cons, Lib.join_cons]
  simp [Lib.joinTail]
theorem join_pre (b : UInt8) (h : List UInt8) (t : List (List UInt8)) (s : List UInt8) : Lib.join ((b :: h) :: t) s = b :: Lib.join (h :: t) s := by
  rw [Lib.join_cons, Lib.join_cons]; rfl
theorem join_spl (c : UInt8) : ∀ l : List UInt8, Lib.join (spl c l) [c] = l
  | [] => by rw [spl_nil, Lib.join_one]
  | b :: r => by
    have ih := join_spl c r
    obtain ⟨h, t, e⟩ := spl_cons c r
    by_cases hb : b = c
    · subst hb
      rw [spl_hit, e, join_two, ← e, ih]; rfl
    · rw [spl_miss hb, e, List.headD_cons, List.tail_cons, join_pre, ← e, ih]
theorem spl_join {c : UInt8} : ∀ (ss : List (List UInt8)), ss ≠ [] → (∀ p ∈ ss, ∀ x ∈ p, x ≠ c) → spl c (Lib.join ss [c]) = ss
  | [], h, _ => absurd rfl h
  | [p], _, h => by rw [Lib.join_one]; exact spl_last p (h p List.mem_cons_self)
  | p :: q :: r, _, h => by
    rw [join_two, spl_cut p _ (h p List.mem_cons_self), spl_join (q :: r) (by simp) fun s hs => h s (List.mem_cons_of_mem _ hs)]
theorem index_one (b c : UInt8) (l : List UInt8) (h : b ≠ c) : Lib.index (b :: l) [c] = if Lib.index l [c] = -1 then -1 else Lib.index l [c] + 1 := by
  have hb : (b == c) = false := by simpa using h
  have hp : List.isPrefixOf [c] (b :: l) = false := by simp [List.isPrefixOf]; exact fun e => h e.symm
  simp [Lib.index, hp]
theorem splitK_spl (c : UInt8) : ∀ l : List UInt8, Lib.splitK [c] 0 (Lib.count l [c]) l = spl c l
  | [] => rfl
  | b :: r => by
    have ih := splitK_spl c r
    by_cases hb : b = c
    · subst hb
      have hi : Lib.index (b :: r) [b] = 0 := by simp [Lib.index, List.isPrefixOf]
      rw [Lib.count_cons_eq, Nat.add_comm, Lib.splitK, if_neg (by rw [hi]; decide), hi, spl_hit, ← ih]
      simp
    · rw [Lib.count_cons_ne b c r hb, spl_miss hb]
      have hx := index_one b c r hb
      generalize hk : Lib.count r [c] = k at ih
      cases k with
      | zero =>
        rw [← ih]; rfl
      | succ k =>
        have hne : Lib.index r [c] ≠ -1 := fun e => by rw [Lib.count_miss e] at hk; omega
        have hge : 0 ≤ Lib.index r [c] := by have := Lib.index_ge r [c]; omega
        rw [if_neg hne] at hx
        rw [Lib.splitK, if_neg (by simpa using hne)] at ih
        rw [Lib.splitK, if_neg (by rw [hx]; simp; omega), hx, ← ih]
        have e : (Lib.index r [c] + 1).toNat = (Lib.index r [c]).toNat + 1 := by omega
        rw [e]
        simp [Nat.add_right_comm]

/-- reading a row, and rows -/
def rwOk (l : List UInt8) : Bool := (spl 44 l).all fun w => (rdV w).2
def rwV (l : List UInt8) : List Int := (spl 44 l).map fun w => (rdV w).1
def mtOk (l : List UInt8) : Bool := (spl 59 l).all rwOk
def mtV (l : List UInt8) : List (List Int) := (spl 59 l).map rwV
def rdM (l : List UInt8) : Bool := mtOk l && isMat (mtV l)
/-- the text of a row, and of a matrix -/
def rowT (x : List Int) : List UInt8 := Lib.join (x.map valT) [44]
def matT (m : List (List Int)) : List UInt8 := if isMat m then Lib.join (m.map rowT) [59] else []
theorem rowT_rwV {l : List UInt8} (h : rwOk l = true) : rowT (rwV l) = l := by
  unfold rowT rwV
  rw [List.map_map]
  have e : (spl 44 l).map (valT ∘ fun w => (rdV w).1) = spl 44 l := by
    conv => rhs; rw [← List.map_id (spl 44 l)]
    refine List.map_congr_left fun w hw => ?_
    exact (rdV_ok (List.all_eq_true.1 h w hw)).2
  rw [e, join_spl]
theorem matT_mtV {l : List UInt8} (h : rdM l = true) : matT (mtV l) = l := by
  unfold rdM at h
  simp only [Bool.and_eq_true] at h
  unfold matT
  rw [if_pos h.2]
  unfold mtV
  rw [List.map_map]
  have e : (spl 59 l).map (rowT ∘ rwV) = spl 59 l := by
    conv => rhs; rw [← List.map_id (spl 59 l)]
    refine List.map_congr_left fun w hw => ?_
    exact rowT_rwV (List.all_eq_true.1 h.1 w hw)
  rw [e, join_spl]
theorem dec_no {u : Nat} {c : UInt8} (hc : c ∈ Lib.decDigits u) : c ≠ 44 ∧ c ≠ 59 := by
  have := dec_mem u c hc
  refine ⟨?_, ?_⟩ <;> (rintro rfl; simp at this)
theorem itoa_no {n : Int} {c : UInt8} (hc : c ∈ Lib.itoa n) : c ≠ 44 ∧ c ≠ 59 := by
  by_cases h : n < 0
  · rw [itoa_neg h] at hc
    rcases List.mem_cons.1 hc with rfl | hc
    · exact ⟨by decide, by decide⟩
    · exact dec_no hc
  · rw [itoa_pos h] at hc; exact dec_no hc
theorem valT_mem {a : Int} {c : UInt8} (hc : c ∈ valT a) : c ≠ 44 ∧ c ≠ 59 := by
  unfold valT at hc
  split at hc
  · split at hc
    · simp only [List.mem_singleton] at hc; subst hc; exact ⟨by decide, by decide⟩
    · exact itoa_no hc
  · simp at hc
theorem mem_join {ss : List (List UInt8)} {s : List UInt8} {c : UInt8} (h : c ∈ Lib.join ss s) : c ∈ s ∨ ∃ p ∈ ss, c ∈ p := by
  cases ss with
  | nil => simp [Lib.join_nil] at h
  | cons p r =>
    rw [Lib.join_cons] at h
    rcases List.mem_append.1 h with h | h
    · exact .inr ⟨p, List.mem_cons_self, h⟩
    · unfold Lib.joinTail at h
      simp only [List.mem_flatten, List.mem_map] at h
      obtain ⟨_, ⟨q, hq, rfl⟩, h⟩ := h
      rcases List.mem_append.1 h with h | h
      · exact .inl h
      · exact .inr ⟨q, List.mem_cons_of_mem _ hq, h⟩
theorem rowT_mem {x : List Int} {c : UInt8} (hc : c ∈ rowT x) : c ≠ 59 := by
  rcases mem_join hc with h | ⟨p, hp, h⟩
  · simp only [List.mem_singleton] at h; subst h; decide
  · obtain ⟨a, _, rfl⟩ := List.mem_map.1 hp
    exact (valT_mem h).2
theorem spl_rowT {x : List Int} (h : x ≠ []) : spl 44 (rowT x) = x.map valT :=
  spl_join _ (by simpa using h) fun p hp c hc => by
    obtain ⟨a, _, rfl⟩ := List.mem_map.1 hp
    exact (valT_mem hc).1
theorem rwV_rowT {x : List Int} (h : x ≠ []) (hv : allV x = true) : rwOk (rowT x) = true ∧ rwV (rowT x) = x := by
  have hv' : ∀ a ∈ x, isVal a = true := fun a ha => List.all_eq_true.1 hv a ha
  unfold rwOk rwV
  rw [spl_rowT h]
  refine ⟨?_, ?_⟩
  · rw [List.all_eq_true]
    intro w hw
    obtain ⟨a, ha, rfl⟩ := List.mem_map.1 hw
    rw [rdV_valT (hv' a ha)]
  · rw [List.map_map]
    conv => rhs; rw [← List.map_id x]
    refine List.map_congr_left fun a ha => ?_
    show (rdV (valT a)).1 = a
    rw [rdV_valT (hv' a ha)]
theorem isMat_mem {m : List (List Int)} (h : isMat m = true) : m ≠ [] ∧ m.length ≤ 10 ∧ ∀ x ∈ m, x ≠ [] ∧ x.length ≤ 10 ∧ allV x = true := by
  unfold isMat at h
  simp only [Bool.and_eq_true] at h
  obtain ⟨⟨h1, h2⟩, h3⟩ := h
  have h1 := inR_iff.1 h1
  have h2 := inR_iff.1 h2
  refine ⟨by rintro rfl; simp at h1, by omega, fun x hx => ?_⟩
  have h4 := List.all_eq_true.1 h3 x hx
  unfold rowOk at h4
  simp only [Bool.and_eq_true, beq_iff_eq] at h4
  exact ⟨by rintro rfl; simp at h4; omega, by omega, h4.2⟩
theorem rdM_matT {m : List (List Int)} (h : isMat m = true) : rdM (matT m) = true ∧ mtV (matT m) = m := by
  obtain ⟨h1, h2, h3⟩ := isMat_mem h
  have e : spl 59 (matT m) = m.map rowT := by
    unfold matT
    rw [if_pos h]
    refine spl_join _ (by simpa using h1) fun p hp c hc => ?_
    obtain ⟨x, _, rfl⟩ := List.mem_map.1 hp
    exact rowT_mem hc
  have ev : mtV (matT m) = m := by
    unfold mtV
    rw [e, List.map_map]
    conv => rhs; rw [← List.map_id m]
    refine List.map_congr_left fun x hx => ?_
    exact (rwV_rowT (h3 x hx).1 (h3 x hx).2.2).2
  refine ⟨?_, ev⟩
  unfold rdM
  rw [ev, h, Bool.and_true]
  unfold mtOk
  rw [e, List.all_eq_true]
  intro w hw
  obtain ⟨x, hx, rfl⟩ := List.mem_map.1 hw
  exact (rwV_rowT (h3 x hx).1 (h3 x hx).2.2).1
theorem rdM_nil : rdM [] = false := by
  unfold rdM mtOk
  have e : rwOk [] = false := by
    unfold rwOk
    rw [spl_nil]
    simp [rdV_nil]
  rw [spl_nil]
  simp [e]
theorem matT_ne {m : List (List Int)} (h : isMat m = true) : matT m ≠ [] := fun e => by
  have := (rdM_matT h).1
  rw [e, rdM_nil] at this; simp at this
theorem matT_no {m : List (List Int)} (h : isMat m = false) : matT m = [] := by unfold matT; rw [h]; rfl
theorem rdM_text (m : List (List Int)) : rdM (matT m) = isMat m := by
  cases h : isMat m
  · rw [matT_no h, rdM_nil]
  · exact (rdM_matT h).1
/-- what is read is short -/
theorem rdM_len {l : List UInt8} (h : rdM l = true) : l.length ≤ 899 := by
  unfold rdM at h
  simp only [Bool.and_eq_true] at h
  obtain ⟨h1, h2, h3⟩ := isMat_mem h.2
  have hl : (spl 59 l).length ≤ 10 := by unfold mtV at h2; simpa using h2
  have hk : ∀ p ∈ spl 59 l, p.length + 1 ≤ 90 := fun p hp => by
    have hok := List.all_eq_true.1 h.1 p hp
    have hx := h3 (rwV p) (List.mem_map_of_mem hp)
    have hn : (spl 44 p).length ≤ 10 := by have := hx.2.1; unfold rwV at this; simpa using this
    have := spl_len_le (c := 44) (l := p) (K := 9) fun w hw => by
      have h5 := rdV_ok (List.all_eq_true.1 hok w hw)
      have h6 := valT_len (rdV w).1
      rw [h5.2] at h6; omega
    omega
  have := spl_len_le hk
  omega
theorem matT_len (m : List (List Int)) : (matT m).length ≤ 899 := by
  cases h : isMat m
  · rw [matT_no h]; simp
  · exact rdM_len (rdM_matT h).1
end Go.Proofs.YtkipbfjkcdccjaaDoor
