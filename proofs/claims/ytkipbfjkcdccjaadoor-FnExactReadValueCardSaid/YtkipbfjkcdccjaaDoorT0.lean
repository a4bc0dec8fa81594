/- Plain law of the texts of numbers and values. No program in sight, no condition. -/
import Derived.Test.YtkipbfjkcdccjaaDoorGP
import Derived.Lib.ItoaNum
import Derived.Lib.ParseIntBTie
import Derived.Lib.AtoiTie
namespace Go.Proofs.YtkipbfjkcdccjaaDoor
set_option linter.unusedVariables false
set_option linter.unusedSimpArgs false

/-- a digit -/
def dgt (n : Nat) : UInt8 := UInt8.ofNat (48 + n)
theorem dgt_toNat {n : Nat} (h : n < 10) : ((dgt n).toNat : Int) = 48 + (n : Int) := by
  unfold dgt
  rw [UInt8.toNat_ofNat_of_lt' (by show 48 + n < 256; omega)]; omega
theorem dec_small {u : Nat} (h : u < 10) : Lib.decDigits u = [dgt u] := by rw [Lib.decDigits, dif_pos h]; rfl
theorem dec_big {u : Nat} (h : ¬ u < 10) : Lib.decDigits u = Lib.decDigits (u / 10) ++ [dgt (u % 10)] := by rw [Lib.decDigits, dif_neg h]; rfl
theorem dec_len (d u : Nat) (h : u < 10 ^ d) : (Lib.decDigits u).length ≤ d + 1 := by
  induction d generalizing u with
  | zero => have : u = 0 := by simpa using h
            subst this; rw [dec_small (by omega)]; simp
  | succ d ih =>
    by_cases h10 : u < 10
    · rw [dec_small h10]; simp
    · rw [dec_big h10, List.length_append]
      have := ih (u / 10) (by rw [Nat.pow_succ] at h; omega)
      simp; omega
/-- the text of a value -/
def valT (a : Int) : List UInt8 := if isVal a then (if a = -1000000000000000 then [46] else Lib.itoa a) else []
/-- the number that digits spell -/
def valD (l : List UInt8) : Nat := l.foldl (fun n c => n * 10 + (c.toNat - 48)) 0
/-- byte k of a text -/
def bt (l : List UInt8) (k : Nat) : Nat := (l.getD k 0).toNat
theorem bt_at (l : List UInt8) (k : Nat) (h : k < l.length) : l[k].toNat = bt l k := by simp [bt, h]
theorem bt_lt (l : List UInt8) (k : Nat) : bt l k < 256 := UInt8.toNat_lt _
theorem valD_snoc (l : List UInt8) (c : UInt8) : valD (l ++ [c]) = valD l * 10 + (c.toNat - 48) := by simp [valD]
theorem valD_take (l : List UInt8) (k : Nat) (h : k < l.length) : valD (l.take (k + 1)) = valD (l.take k) * 10 + (bt l k - 48) := by
  rw [List.take_succ_eq_append_getElem h, valD_snoc, bt_at]
theorem valD_bd (l : List UInt8) (n : Nat) (h : ∀ j, j < n → bt l j ≤ 57) (hn : n ≤ l.length) : valD (l.take n) < 10 ^ n := by
  induction n with
  | zero => simp [valD]
  | succ n ih =>
    rw [valD_take l n (by omega), Nat.pow_succ]
    have := ih (fun j hj => h j (by omega)) (by omega)
    have := h n (by omega)
    omega
/-- all are digits -/
def Dg (l : List UInt8) : Prop := ∀ j, j < l.length → 48 ≤ bt l j ∧ bt l j ≤ 57
theorem Dg_mem {l : List UInt8} (h : ∀ c ∈ l, 48 ≤ c.toNat ∧ c.toNat ≤ 57) : Dg l := fun j hj => by
  rw [← bt_at l j hj]; exact h _ (List.getElem_mem hj)
theorem dgt_nat {n : Nat} (h : n < 10) : (dgt n).toNat = 48 + n := by
  have := dgt_toNat h; omega
theorem dec_mem (u : Nat) : ∀ c ∈ Lib.decDigits u, 48 ≤ c.toNat ∧ c.toNat ≤ 57 := by
  induction u using Nat.strongRecOn with
  | ind u ih =>
    by_cases h : u < 10
    · rw [dec_small h]; intro c hc
      simp only [List.mem_singleton] at hc; subst hc
      have := dgt_nat h; omega
    · rw [dec_big h]; intro c hc
      rcases List.mem_append.1 hc with hc | hc
      · exact ih (u / 10) (by omega) c hc
      · simp only [List.mem_singleton] at hc; subst hc
        have := dgt_nat (n := u % 10) (by omega); omega
theorem valD_dec (u : Nat) : valD (Lib.decDigits u) = u := by
  induction u using Nat.strongRecOn with
  | ind u ih =>
    by_cases h : u < 10
    · rw [dec_small h]
      have := dgt_nat h
      simp [valD]; omega
    · rw [dec_big h, valD_snoc, ih (u / 10) (by omega), dgt_nat (by omega)]; omega
theorem dec_pos (u : Nat) : 1 ≤ (Lib.decDigits u).length := by rw [Lib.decDigits_length]; exact Lib.nDigits_pos u
theorem decFrom_snoc : ∀ (l : List UInt8) (acc n : Nat) (c : UInt8), Lib.decFrom acc l = some n → 48 ≤ c.toNat → c.toNat ≤ 57 → Lib.decFrom acc (l ++ [c]) = some (n * 10 + (c.toNat - 48))
  | [], acc, n, c, h, h1, h2 => by
    simp only [Lib.decFrom, Option.some.injEq] at h; subst h
    simp [Lib.decFrom, Lib.digitVal, h1, h2]
  | b :: r, acc, n, c, h, h1, h2 => by
    simp only [List.cons_append, Lib.decFrom] at h ⊢
    cases hd : Lib.digitVal b with
    | none => rw [hd] at h; cases h
    | some d => rw [hd] at h; exact decFrom_snoc r _ n c h h1 h2
theorem decFrom_dec (u : Nat) : Lib.decFrom 0 (Lib.decDigits u) = some u := by
  induction u using Nat.strongRecOn with
  | ind u ih =>
    by_cases h : u < 10
    · rw [dec_small h]
      have h1 := dgt_nat h
      have := decFrom_snoc [] 0 0 (dgt u) rfl (by omega) (by omega)
      simp only [List.nil_append] at this
      rw [this, h1]; congr 1; omega
    · rw [dec_big h]
      have h1 := dgt_nat (n := u % 10) (by omega)
      rw [decFrom_snoc _ 0 _ _ (ih (u / 10) (by omega)) (by omega) (by omega), h1]; congr 1; omega
theorem decNat_dec (u : Nat) : Lib.decNat (Lib.decDigits u) = some u := by
  unfold Lib.decNat
  have := dec_pos u
  rw [if_neg (by cases h : Lib.decDigits u with
    | nil => rw [h] at this; simp at this
    | cons a b => simp), decFrom_dec]
theorem dec_head (u : Nat) : ∃ c r, Lib.decDigits u = c :: r ∧ 48 ≤ c.toNat ∧ c.toNat ≤ 57 := by
  have h1 := dec_pos u
  have h2 := dec_mem u
  cases h : Lib.decDigits u with
  | nil => rw [h] at h1; simp at h1
  | cons a b => rw [h] at h2; exact ⟨a, b, rfl, h2 a List.mem_cons_self⟩
theorem itoa_neg {n : Int} (h : n < 0) : Lib.itoa n = 45 :: Lib.decDigits n.natAbs := by unfold Lib.itoa; rw [if_pos h]
theorem itoa_pos {n : Int} (h : ¬ n < 0) : Lib.itoa n = Lib.decDigits n.toNat := by unfold Lib.itoa; rw [if_neg h]
theorem atoi_itoa (n : Int) : Lib.atoi (Lib.itoa n) = some n := by
  by_cases h : n < 0
  · rw [itoa_neg h]
    simp only [Lib.atoi, beq_self_eq_true, if_true, decNat_dec, Option.map_some, Option.some.injEq]
    omega
  · rw [itoa_pos h]
    obtain ⟨c, r, e, h1, h2⟩ := dec_head n.toNat
    have hc1 : (c == 45) = false := by simp only [beq_eq_false_iff_ne, ne_eq]; rintro rfl; simp at h1
    have hc2 : (c == 43) = false := by simp only [beq_eq_false_iff_ne, ne_eq]; rintro rfl; simp at h1
    have hd := decNat_dec n.toNat
    rw [e] at hd ⊢
    simp only [Lib.atoi, hc1, hc2, hd, Option.map_some, Option.some.injEq, Bool.false_eq_true, if_false]
    omega
theorem itoa_len {n : Int} (h : -1000000 ≤ n ∧ n ≤ 1000000) : (Lib.itoa n).length ≤ 8 := by
  have hd : ∀ u : Nat, u ≤ 1000000 → (Lib.decDigits u).length ≤ 7 := fun u hu => by
    by_cases e : u < 10
    · rw [dec_small e]; simp
    · rw [dec_big e, List.length_append]
      have := dec_len 5 (u / 10) 
      by_cases e2 : u / 10 < 10 ^ 5
      · have := this e2; simp; omega
      · obtain rfl : u = 1000000 := by omega
        decide +kernel
  by_cases e : n < 0
  · rw [itoa_neg e]; have := hd n.natAbs (by omega); simp; omega
  · rw [itoa_pos e]; have := hd n.toNat (by omega); omega
theorem parse_itoa {n : Int} (h : -1000000 ≤ n ∧ n ≤ 1000000) : Lib.parseIntB 64 (Lib.itoa n) = .ok n := by
  have := itoa_len h
  rw [Lib.parseIntB_64, Lib.atoiAll_short _ (by omega), atoi_itoa]; rfl
theorem itoa_inj {m n : Int} (h : Lib.itoa m = Lib.itoa n) : m = n := by
  have h1 := atoi_itoa m
  rw [h, atoi_itoa] at h1
  exact (Option.some.inj h1).symm

/-- the number that a text spells -/
def valI (l : List UInt8) : Int := (Lib.atoi l).getD 0
theorem valI_itoa (n : Int) : valI (Lib.itoa n) = n := by simp [valI, atoi_itoa]
/-- reading a finite number -/
def numR (l : List UInt8) : Int × Bool := if Lib.itoa (valI l) = l ∧ fin (valI l) = true then (valI l, true) else (0, false)
theorem numR_yes {n : Int} (h : fin n = true) : numR (Lib.itoa n) = (n, true) := by
  unfold numR; rw [valI_itoa, if_pos ⟨rfl, h⟩]
theorem numR_no {l : List UInt8} (h : ∀ n, fin n = true → Lib.itoa n ≠ l) : numR l = (0, false) := by
  unfold numR; rw [if_neg fun hh => h _ hh.2 hh.1]
theorem numR_cases (l : List UInt8) : (∃ n, fin n = true ∧ Lib.itoa n = l ∧ numR l = (n, true)) ∨ numR l = (0, false) := by
  by_cases h : Lib.itoa (valI l) = l ∧ fin (valI l) = true
  · left; exact ⟨valI l, h.2, h.1, by unfold numR; rw [if_pos h]⟩
  · right; unfold numR; rw [if_neg h]
/-- what the reading of digits returns -/
def digR (l : List UInt8) : Int × Bool :=
  if 1 ≤ l.length ∧ l.length ≤ 10 ∧ l.all (fun c => decide (48 ≤ c.toNat) && decide (c.toNat ≤ 57)) = true then ((valD l : Int), Lib.decDigits (valD l) == l) else (0, false)
theorem all_Dg {l : List UInt8} : l.all (fun c => decide (48 ≤ c.toNat) && decide (c.toNat ≤ 57)) = true ↔ Dg l := by
  simp only [List.all_eq_true, Bool.and_eq_true, decide_eq_true_eq]
  refine ⟨Dg_mem, fun h c hc => ?_⟩
  obtain ⟨j, hj, rfl⟩ := List.getElem_of_mem hc
  have := h j hj
  rw [← bt_at l j hj] at this
  exact this
theorem digR_no {l : List UInt8} (h : ¬ (1 ≤ l.length ∧ l.length ≤ 10 ∧ Dg l)) : digR l = (0, false) := if_neg fun hh => h ⟨hh.1, hh.2.1, all_Dg.1 hh.2.2⟩
theorem digR_yes {l : List UInt8} (h : 1 ≤ l.length ∧ l.length ≤ 10 ∧ Dg l) : digR l = ((valD l : Int), Lib.decDigits (valD l) == l) := if_pos ⟨h.1, h.2.1, all_Dg.2 h.2.2⟩
theorem digR_bd (l : List UInt8) : 0 ≤ (digR l).1 ∧ (digR l).1 ≤ 10000000000 := by
  by_cases h : 1 ≤ l.length ∧ l.length ≤ 10 ∧ Dg l
  · rw [digR_yes h]
    have := valD_bd l l.length (fun j hj => (h.2.2 j hj).2) (Nat.le_refl _)
    rw [List.take_length] at this
    have h2 : 10 ^ l.length ≤ 10 ^ 10 := Nat.pow_le_pow_right (by omega) h.2.1
    show 0 ≤ (valD l : Int) ∧ (valD l : Int) ≤ 10000000000
    omega
  · rw [digR_no h]; simp
theorem digR_dec {u : Nat} (h : u ≤ 1000000) : digR (Lib.decDigits u) = ((u : Int), true) := by
  have h1 : (Lib.decDigits u).length ≤ 10 := by have := dec_len 7 u (by omega); omega
  rw [digR_yes ⟨dec_pos u, h1, Dg_mem (dec_mem u)⟩, valD_dec]; simp
theorem digR_spells {l : List UInt8} (h : (digR l).2 = true) : Lib.decDigits (digR l).1.toNat = l := by
  by_cases hh : 1 ≤ l.length ∧ l.length ≤ 10 ∧ Dg l
  · rw [digR_yes hh] at h ⊢
    simpa using h
  · rw [digR_no hh] at h; simp at h
/-- .. and of a number with a sign -/
def sgnRd (l : List UInt8) : Int × Bool := if l.head? = some 45 then (-(digR (l.drop 1)).1, (digR (l.drop 1)).2 && decide (0 < (digR (l.drop 1)).1)) else digR l
theorem sgnRd_bd (l : List UInt8) : -10000000000 ≤ (sgnRd l).1 ∧ (sgnRd l).1 ≤ 10000000000 := by
  unfold sgnRd
  split
  · have := digR_bd (l.drop 1); simp only; omega
  · have := digR_bd l; omega
theorem sgnRd_spells {l : List UInt8} (h : (sgnRd l).2 = true) : Lib.itoa (sgnRd l).1 = l := by
  by_cases hh : l.head? = some 45
  · have e : sgnRd l = (-(digR (l.drop 1)).1, (digR (l.drop 1)).2 && decide (0 < (digR (l.drop 1)).1)) := if_pos hh
    rw [e] at h ⊢
    simp only [Bool.and_eq_true, decide_eq_true_eq] at h
    have h1 := digR_spells h.1
    show Lib.itoa (-(digR (l.drop 1)).1) = l
    rw [itoa_neg (by omega)]
    have h2 : (-(digR (l.drop 1)).1).natAbs = (digR (l.drop 1)).1.toNat := by omega
    rw [h2, h1]
    cases l with
    | nil => simp at hh
    | cons a b => simp only [List.head?_cons, Option.some.injEq] at hh; subst hh; rfl
  · have e : sgnRd l = digR l := if_neg hh
    rw [e] at h ⊢
    have := digR_bd l
    rw [itoa_pos (by omega), digR_spells h]
theorem sgnRd_itoa {n : Int} (h : fin n = true) : sgnRd (Lib.itoa n) = (n, true) := by
  have hb := fin_iff.1 h
  by_cases hn : n < 0
  · rw [itoa_neg hn]
    have e : sgnRd (45 :: Lib.decDigits n.natAbs) = (-(digR (Lib.decDigits n.natAbs)).1, (digR (Lib.decDigits n.natAbs)).2 && decide (0 < (digR (Lib.decDigits n.natAbs)).1)) := if_pos rfl
    rw [e, digR_dec (by omega)]
    have h1 : -((n.natAbs : Nat) : Int) = n := by omega
    have h2 : decide (0 < ((n.natAbs : Nat) : Int)) = true := by simp; omega
    rw [h1, h2]; rfl
  · rw [itoa_pos hn]
    obtain ⟨c, r, e, h1, h2⟩ := dec_head n.toNat
    have e2 : sgnRd (Lib.decDigits n.toNat) = digR (Lib.decDigits n.toNat) := if_neg (by
      rw [e]; simp only [List.head?_cons, Option.some.injEq]; rintro rfl; simp at h1)
    rw [e2, digR_dec (by omega)]
    congr 1; omega
/-- the two ways of reading agree -/
theorem numR_sgn (l : List UInt8) : numR l = if (sgnRd l).2 && fin (sgnRd l).1 then ((sgnRd l).1, true) else (0, false) := by
  by_cases h : ((sgnRd l).2 && fin (sgnRd l).1) = true
  · rw [if_pos h]
    simp only [Bool.and_eq_true] at h
    have h1 := sgnRd_spells h.1
    have h2 := numR_yes h.2
    rw [h1] at h2; exact h2
  · rw [if_neg h]
    refine numR_no fun n hn e => h ?_
    rw [← e, sgnRd_itoa hn]; simpa using hn
theorem numR_parse_ok {l : List UInt8} {v : Int} (h : Lib.parseIntB 64 l = .ok v) : numR l = if (Lib.itoa v == l) && fin v then (v, true) else (0, false) := by
  by_cases hh : ((Lib.itoa v == l) && fin v) = true
  · rw [if_pos hh]
    simp only [Bool.and_eq_true, beq_iff_eq] at hh
    have := numR_yes hh.2
    rw [hh.1] at this; exact this
  · rw [if_neg hh]
    refine numR_no fun n hn e => hh ?_
    have h1 := parse_itoa (fin_iff.1 hn)
    rw [e, h] at h1
    injection h1 with h1
    subst h1
    simp [e, hn]
theorem numR_parse_no {l : List UInt8} (h : ∀ v, Lib.parseIntB 64 l ≠ .ok v) : numR l = (0, false) :=
  numR_no fun n hn e => h n (by rw [← e]; exact parse_itoa (fin_iff.1 hn))
/-- reading a value -/
def rdV (l : List UInt8) : Int × Bool := if l = [46] then (-1000000000000000, true) else numR l
theorem rdV_dot : rdV [46] = (-1000000000000000, true) := if_pos rfl
theorem rdV_num {l : List UInt8} (h : l ≠ [46]) : rdV l = numR l := if_neg h
theorem itoa_ne (n : Int) : Lib.itoa n ≠ [] ∧ Lib.itoa n ≠ [46] := by
  by_cases h : n < 0
  · rw [itoa_neg h]; exact ⟨by simp, by simp⟩
  · rw [itoa_pos h]
    obtain ⟨c, r, e, h1, h2⟩ := dec_head n.toNat
    rw [e]
    refine ⟨by simp, fun hh => ?_⟩
    simp only [List.cons.injEq] at hh
    obtain ⟨rfl, _⟩ := hh
    simp at h1
theorem isVal_fin {a : Int} (h : isVal a = true) (hb : a ≠ -1000000000000000) : fin a = true := by
  rcases isVal_iff.1 h with h | h
  · exact absurd h hb
  · exact fin_iff.2 h
theorem rdV_valT {a : Int} (h : isVal a = true) : rdV (valT a) = (a, true) := by
  unfold valT
  rw [if_pos h]
  by_cases hb : a = -1000000000000000
  · rw [if_pos hb, rdV_dot, hb]
  · rw [if_neg hb, rdV_num (itoa_ne a).2, numR_yes (isVal_fin h hb)]
theorem rdV_nil : rdV [] = (0, false) := by
  rw [rdV_num (by simp)]
  exact numR_no fun n _ => (itoa_ne n).1
theorem valT_ne {a : Int} (h : isVal a = true) : valT a ≠ [] := by
  unfold valT
  rw [if_pos h]
  by_cases hb : a = -1000000000000000
  · rw [if_pos hb]; simp
  · rw [if_neg hb]; exact (itoa_ne a).1
theorem valT_no {a : Int} (h : isVal a = false) : valT a = [] := by unfold valT; rw [h]; rfl
theorem rdV_text (a : Int) : (rdV (valT a)).2 = isVal a := by
  cases h : isVal a
  · rw [valT_no h, rdV_nil]
  · rw [rdV_valT h]
theorem rdV_ok {l : List UInt8} (h : (rdV l).2 = true) : isVal (rdV l).1 = true ∧ valT (rdV l).1 = l := by
  by_cases e : l = [46]
  · subst e; rw [rdV_dot]; exact ⟨by decide, by decide +kernel⟩
  · rw [rdV_num e] at h ⊢
    rcases numR_cases l with ⟨n, hn, h1, h2⟩ | h2
    · rw [h2]
      have hb := fin_iff.1 hn
      have hv : isVal n = true := isVal_iff.2 (Or.inr hb)
      refine ⟨hv, ?_⟩
      show valT n = l
      unfold valT
      rw [if_pos hv, if_neg (by omega), h1]
    · rw [h2] at h; simp at h
theorem rdV_no {l : List UInt8} (h : (rdV l).2 = false) : rdV l = (0, false) := by
  by_cases e : l = [46]
  · subst e; rw [rdV_dot] at h; simp at h
  · rw [rdV_num e] at h ⊢
    rcases numR_cases l with ⟨n, hn, h1, h2⟩ | h2
    · rw [h2] at h; simp at h
    · exact h2
theorem valT_len (a : Int) : (valT a).length ≤ 8 := by
  unfold valT
  split
  · rename_i h
    split
    · simp
    · rename_i hb
      exact itoa_len (fin_iff.1 (isVal_fin h hb))
  · simp
end Go.Proofs.YtkipbfjkcdccjaaDoor
