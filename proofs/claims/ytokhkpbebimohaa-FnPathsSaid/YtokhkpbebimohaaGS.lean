/- Several texts in one: Q S1 S2. -/
import Derived.StillTail
import Derived.Deep.Quiet
import Derived.Test.YtokhkpbebimohaaGP
import Derived.Test.YtokhkpbebimohaaRows
/- A region that draws its order: all operations but a forced tail leave the world alone but for draws. No condition. -/
namespace Go.Proofs.Ytokhkpbebimohaa
set_option linter.unusedVariables false

section
variable {P : Program} {ops : Array Oper} {md : Region.Mode} {C : World → Prop}

/-- whatever order is picked among the first n operations; then L -/
def headQ (P : Program) (md : Region.Mode) (ops : Array Oper) (C : World → Prop) (n : Nat) (L : Array Bool → Act → Prop) : Nat → Array Bool → Act → Prop
  | 0, listed, a => L listed a
  | f + 1, listed, a => Region.ready md ops listed ≠ [] ∧ ∀ i ∈ Region.ready md ops listed, i < n ∧ qOp P ops C i (headQ P md ops C n L f (listed.setIfInBounds i true)) a

theorem any_of_headQ {n g : Nat} {L : Array Bool → Act → Prop} {Q' : Exit → Act → World → Prop} (hL : ∀ listed a w, C w → L listed a → wpAny P md ops Q' g listed a w) :
    ∀ (f : Nat) (listed : Array Bool) (a : Act) (w : World), C w → headQ P md ops C n L f listed a → wpAny P md ops Q' (f + g) listed a w := by
  intro f
  induction f with
  | zero => intro listed a w hw h; rw [Nat.zero_add]; exact hL _ _ _ hw h
  | succ f ih =>
    intro listed a w hw h
    rw [show f + 1 + g = (f + g) + 1 by omega]
    exact ⟨fun h0 => absurd h0 h.1, fun i hi => wpOp_of_qOp hw (fun a' w' hw' h' => ih _ a' w' hw' h') (h.2 i hi).2⟩

theorem headQ_first {n i : Nat} {oi : Oper} {v : Value} {L : Array Bool → Act → Prop} (hi : ops[i]? = some oi) (hsel : ∀ (j : Nat) (o : Oper) cs b, ops[j]? = some o → o.op ≠ .select cs b)
    (hs : Region.sinkB md ops n = true) (hc : Region.chainB md ops n = true) (hn : n < ops.size) (hin : i < n)
    (hdone : ∀ listed a, L listed a → ∀ j ∈ Region.ready md ops listed, n ≤ j) :
    ∀ (f : Nat) (listed : Array Bool) (a : Act), HeadInv md ops n listed →
      (∀ j oj, ops[j]? = some oj → j ≠ i → listed.getD j true = false → (∀ e ∈ oj.after, Region.binds md e = true → e.on ≠ i) → oi.apart ops oj = true) →
      i ∈ Region.ready md ops listed → YieldsIn P ops C oi v a →
      headQ P md ops C n L f (listed.setIfInBounds i true) (a.put oi.dst v) → headQ P md ops C n L (f + 1) listed a := by
  intro f
  induction f with
  | zero =>
    intro listed a inv _ hr hy H
    have hun := (mem_ready.1 hr).1
    refine ⟨fun h => (by rw [h] at hr; cases hr), fun j hj => ?_⟩
    have hjn : j < n := by
      rcases Nat.lt_or_ge j n with h | h
      · exact h
      · exact absurd hj (tail_waits hs hc hn inv _ i rfl hin hun j h)
    refine ⟨hjn, ?_⟩
    by_cases hji : j = i
    · subst hji; exact hy.qOp hi H
    · have := hdone _ _ H j (ready_mono hj hji)
      omega
  | succ f ih =>
    intro listed a inv hfree hr hy H
    have hun := (mem_ready.1 hr).1
    refine ⟨fun h => (by rw [h] at hr; cases hr), fun j hj => ?_⟩
    have hjn : j < n := by
      rcases Nat.lt_or_ge j n with h | h
      · exact h
      · exact absurd hj (tail_waits hs hc hn inv _ i rfl hin hun j h)
    refine ⟨hjn, ?_⟩
    by_cases hji : j = i
    · subst hji; exact hy.qOp hi H
    · have h1 := (H.2 j (ready_mono hj hji)).2
      obtain ⟨hjun, oj, hoj, hall⟩ := mem_ready.1 hj
      have hnot : ∀ e ∈ oj.after, Region.binds md e = true → e.on ≠ i := fun e he hb heq => by
        have h1 := hall e he hb
        rw [heq, getD_both hun] at h1
        cases h1
      have h2 := qOp_put hoj (hfree j oj hoj hji hjun hnot) (fun cs b => hsel i oi cs b hi) (fun cs b => hsel j oj cs b hoj) hy h1
      have hfree' : ∀ k ok, ops[k]? = some ok → k ≠ i → (listed.setIfInBounds j true).getD k true = false →
          (∀ e ∈ ok.after, Region.binds md e = true → e.on ≠ i) → oi.apart ops ok = true := fun k ok hk hki hun hno => by
        refine hfree k ok hk hki ?_ hno
        by_cases hjk : j = k
        · subst hjk; exact hjun
        · rw [getD_set_ne true hjk] at hun; exact hun
      refine qOp_mono (fun a' h3 => ih (listed.setIfInBounds j true) a' (inv.set hj hjn) hfree' (ready_mono hr (Ne.symm hji)) h3.1 ?_) h2
      rw [Array.setIfInBounds_comm _ _ hji]
      exact h3.2

theorem headQ_lex {n g : Nat} {Lq : Act → Prop} (hsel : Region.noSelect ops = true) (hs : Region.sinkB md ops n = true) (hc : Region.chainB md ops n = true) (hn : n < ops.size) :
    ∀ (l : List Oper) (k : Nat) (listed : Array Bool) (a : Act), (∀ j, j < l.length → l[j]? = ops[k + j]?) → k + l.length = n → HeadInv md ops n listed →
    Region.lexHead md ops g l.length k listed = true → wpQuiet P ops C Lq l a →
    headQ P md ops C n (fun listed' a' => Region.seqB md ops g n listed' = true ∧ Lq a') l.length listed a := by
  intro l
  induction l with
  | nil =>
    intro k listed a _ hk _ hB h
    have : k = n := by simpa using hk
    subst this
    exact ⟨by simpa [Region.lexHead] using hB, h⟩
  | cons o l ih =>
    intro k listed a hl hk inv hB h
    have h0 : ops[k]? = some o := by simpa using (hl 0 (by simp)).symm
    simp only [List.length_cons, Region.lexHead, Bool.and_eq_true] at hB
    obtain ⟨⟨hr, hf⟩, hB'⟩ := hB
    have hkn : k < n := by simp only [List.length_cons] at hk; omega
    have hr' : k ∈ Region.ready md ops listed := by simpa using hr
    have hst : qOp P ops C k (wpQuiet P ops C Lq l) a := by unfold qOp; simp only [h0]; exact h
    obtain ⟨v, hy, hK⟩ := yieldsIn_of_qOp h0 hst
    exact headQ_first h0 (Region.noSelect_spec hsel) hs hc hn hkn (fun listed' a' hL => seqB_ready hL.1) l.length listed a inv (Region.free_spec h0 hf) hr' hy
      (ih (k + 1) _ _ (fun j hj => by have := hl (j + 1) (by simp; omega); simpa [Nat.add_assoc, Nat.add_comm 1 j] using this) (by simp only [List.length_cons] at hk; omega) (inv.set hr' hkn) hB' hK)

/-- one walk in the text's order serves every order -/
theorem region_qt {id : Nat} {Q : Exit → Act → World → Prop} {a : Act} {w : World} {l : List Oper} (n : Nat) (hm : P.follows .mixedOrders = true) (hB : Region.lexTailB .any l.toArray n = true) (hC : C { w with drawn := w.drawn + 1 })
    (h : wpQuiet P l.toArray C (fun a' => ∀ w', C w' → wpList P l.toArray Q (l.drop n) a' w') (l.take n) a) : (Code.region id l.toArray true).wp P Q a w := by
  simp only [Region.lexTailB, Bool.and_eq_true, decide_eq_true_eq] at hB
  obtain ⟨⟨⟨⟨hsel, hn⟩, hs⟩, hc⟩, hlex⟩ := hB
  have hn' : n < l.length := by simpa using hn
  have htl : (l.take n).length = n := by simp; omega
  have hdl : (l.drop n).length = l.toArray.size - n := by simp
  have inv0 : HeadInv .any l.toArray n (Array.replicate l.toArray.size false) :=
    ⟨by simp, fun j oj _ hl => (by rw [getD_replicate_false] at hl; cases hl), fun t _ ht => getD_in (by simpa using ht) (getD_replicate_false _ _)⟩
  have H := headQ_lex (md := .any) (C := C) (g := l.toArray.size - n) hsel hs hc hn (l.take n) 0 _ a (fun j hj => by
    have hj' : j < n := by rw [htl] at hj; exact hj
    simp [hj']) (by simpa using htl) inv0 (by rw [htl]; exact hlex) h
  refine wp_region_any hm ?_
  have := any_of_headQ (Q' := Q) (g := l.toArray.size - n) (fun listed a' w' hw' hL => by
    have := wpAny_of_seq (md := .any) (Q' := Q) (l.drop n) n listed a' w' (fun j => by simp [List.getElem?_drop]) (by rw [hdl]; exact hL.1) (hL.2 w' hw')
    rwa [hdl] at this) _ _ _ _ hC H
  rw [htl, show n + (l.toArray.size - n) = l.toArray.size by omega] at this
  exact this

theorem region_qt_lit {id : Nat} {Q : Exit → Act → World → Prop} {a : Act} {w : World} {l : List Oper} (n : Nat) (hm : P.follows .mixedOrders = true) (hB : Region.lexTailB .any l.toArray n = true)
    (h : wpQuiet P l.toArray (fun w' => ∃ n, w' = w.drewN n) (fun a' => ∀ w', (∃ n, w' = w.drewN n) → wpList P l.toArray Q (l.drop n) a' w') (l.take n) a) : (Code.region id l.toArray true).wp P Q a w :=
  region_qt (C := fun w' => ∃ n, w' = w.drewN n) n hm hB ⟨1, rfl⟩ h
end

end Go.Proofs.Ytokhkpbebimohaa

/- Contracts of the functions that only compute with numbers. Conditions: the bounds that each states. -/
namespace Go.Proofs.Ytokhkpbebimohaa
set_option linter.unusedVariables false
open Go.RowKit

theorem within_c (n lo hi : Int) (w : World) :
    Calls Try.prog 76 #[.int .i64 n, .int .i64 lo, .int .i64 hi] w fun e w' => e = .returned (.bool (inR n lo hi)) ∧ w = w' := by
  go_enter Try.func76, Try.ntmps76
  go_wp2
  all_goals go_ret
  · exact ⟨ret_bool (by simp [inR, *]), rfl⟩
  · exact ⟨ret_bool (by simp [inR]; omega), rfl⟩

theorem l01In_c (n lo hi : Int) (w : World) :
    Calls Try.prog 81 #[.int .i64 n, .int .i64 lo, .int .i64 hi] w fun e w' => e = .returned (.bool (inR n lo hi)) ∧ w = w' := by
  go_enter Try.func81, Try.ntmps81
  go_wp2
  all_goals go_ret
  · exact ⟨ret_bool (by simp [inR, *]), rfl⟩
  · exact ⟨ret_bool (by simp [inR]; omega), rfl⟩

theorem isFinite_c (n : Int) (w : World) :
    Calls Try.prog 151 #[.int .i64 n] w fun e w' => e = .returned (.bool (fin n)) ∧ w = w' := by
  go_enter Try.func151, Try.ntmps151
  go_wp2_with (go_at_call 76; refine (within_c _ _ _ _).mono ?_; rintro e w' ⟨rfl, rfl⟩)
  go_ret
  exact ⟨rfl, rfl⟩

theorem l01Finite_c (n : Int) (w : World) :
    Calls Try.prog 134 #[.int .i64 n] w fun e w' => e = .returned (.bool (fin n)) ∧ w = w' := by
  go_enter Try.func134, Try.ntmps134
  go_wp2_with (go_at_call 81; refine (l01In_c _ _ _ _).mono ?_; rintro e w' ⟨rfl, rfl⟩)
  go_ret
  exact ⟨rfl, rfl⟩

theorem isValue_c (n : Int) (w : World) :
    Calls Try.prog 140 #[.int .i64 n] w fun e w' => e = .returned (.bool (isVal n)) ∧ w = w' := by
  go_enter Try.func140, Try.ntmps140
  go_wp2_with (go_at_call 151; refine (isFinite_c _ _).mono ?_; rintro e w' ⟨rfl, rfl⟩)
  all_goals go_ret
  all_goals exact ⟨ret_bool (by simp [isVal, *]), rfl⟩

theorem sIsValue_c (n : Int) (w : World) :
    Calls Try.prog 142 #[.int .i64 n] w fun e w' => e = .returned (.bool (isVal n)) ∧ w = w' := by
  go_enter Try.func142, Try.ntmps142
  go_wp2_with (go_at_call 134; refine (l01Finite_c _ _).mono ?_; rintro e w' ⟨rfl, rfl⟩)
  all_goals go_ret
  all_goals exact ⟨ret_bool (by simp [isVal, *]), rfl⟩

theorem times_c (a b : Int) (w : World) (ha : -4000000000000000000 ≤ a ∧ a ≤ 4000000000000000000) (hb : -4000000000000000000 ≤ b ∧ b ≤ 4000000000000000000) :
    Calls Try.prog 132 #[.int .i64 a, .int .i64 b] w fun e w' => e = .returned (.int .i64 (times a b)) ∧ w = w' := by
  obtain ⟨ha1, ha2⟩ := ha; obtain ⟨hb1, hb2⟩ := hb
  go_enter Try.func132, Try.ntmps132
  go_wp2
  all_goals go_ret
  all_goals exact ⟨ret_int (by simp_all [times]), rfl⟩

theorem l01Times_c (a b : Int) (w : World) (ha : -4000000000000000000 ≤ a ∧ a ≤ 4000000000000000000) (hb : -4000000000000000000 ≤ b ∧ b ≤ 4000000000000000000) :
    Calls Try.prog 97 #[.int .i64 a, .int .i64 b] w fun e w' => e = .returned (.int .i64 (times a b)) ∧ w = w' := by
  obtain ⟨ha1, ha2⟩ := ha; obtain ⟨hb1, hb2⟩ := hb
  go_enter Try.func97, Try.ntmps97
  go_wp2
  all_goals go_ret
  all_goals exact ⟨ret_int (by simp_all [times]), rfl⟩

theorem absOf_c (n : Int) (w : World) (h : -4000000000000000000 ≤ n) :
    Calls Try.prog 150 #[.int .i64 n] w fun e w' => e = .returned (.int .i64 (absI n)) ∧ w = w' := by
  go_enter Try.func150, Try.ntmps150
  go_wp2
  all_goals go_ret
  all_goals exact ⟨ret_int (by unfold absI; split <;> omega), rfl⟩

theorem checkedValue_c (n : Int) (w : World) :
    Calls Try.prog 100 #[.int .i64 n] w fun e w' => e = .returned (.tuple #[.int .i64 (chkV n).1, .int .i64 (chkV n).2]) ∧ w = w' := by
  by_cases h : isVal n = true
  · have e : chkV n = (n, 0) := by simp [chkV, h]
    rw [e]
    go_enter Try.func100, Try.ntmps100
    go_wp2_with (go_at_call 140; refine (isValue_c _ _).mono ?_; rintro e w' ⟨rfl, rfl⟩)
    go_ret2
    exact ⟨rfl, rfl⟩
  · have h' : isVal n = false := by simpa using h
    have e : chkV n = (0, 3) := by simp [chkV, h']
    rw [e]
    clear h
    go_enter Try.func100, Try.ntmps100
    go_wp2_with (go_at_call 140; refine (isValue_c _ _).mono ?_; rintro e w' ⟨rfl, rfl⟩)
    go_ret2
    exact ⟨rfl, rfl⟩

theorem l01Value_c (n : Int) (w : World) :
    Calls Try.prog 103 #[.int .i64 n] w fun e w' => e = .returned (.tuple #[.int .i64 (chkV n).1, .int .i64 (chkV n).2]) ∧ w = w' := by
  by_cases h : isVal n = true
  · have e : chkV n = (n, 0) := by simp [chkV, h]
    rw [e]
    go_enter Try.func103, Try.ntmps103
    go_wp2_with (go_at_call 142; refine (sIsValue_c _ _).mono ?_; rintro e w' ⟨rfl, rfl⟩)
    go_ret2
    exact ⟨rfl, rfl⟩
  · have h' : isVal n = false := by simpa using h
    have e : chkV n = (0, 3) := by simp [chkV, h']
    rw [e]
    clear h
    go_enter Try.func103, Try.ntmps103
    go_wp2_with (go_at_call 142; refine (sIsValue_c _ _).mono ?_; rintro e w' ⟨rfl, rfl⟩)
    go_ret2
    exact ⟨rfl, rfl⟩

theorem divisorOf_c (a b : Int) (w : World) (ha : 0 ≤ a ∧ a ≤ 9223372036854775807) (hb : 0 ≤ b ∧ b ≤ 9223372036854775807) :
    Calls Try.prog 149 #[.int .i64 a, .int .i64 b] w fun e w' => e = .returned (.int .i64 (gcdI a b)) ∧ Qt w w' := by
  generalize hg : gcdI a b = g
  have HG := Lib.hid hg
  clear hg
  go_enter Try.func149, Try.ntmps149
  go_wp2
  go_loopw [0, 1] (fun s t wr => ∃ x y : Int, s = .int .i64 x ∧ t = .int .i64 y ∧ 0 ≤ x ∧ x ≤ 9223372036854775807 ∧ 0 ≤ y ∧ y ≤ 9223372036854775807 ∧ Hid (gcdI x y = g) ∧ Qt w wr) (fun _ t _ => (intOf t).toNat)
  case atStart => exact ⟨a, b, rfl, rfl, ha.1, ha.2, hb.1, hb.2, HG.out, Qt.refl _⟩
  case round =>
    obtain ⟨x, y, rfl, rfl, h1, h2, h3, h4, h5, h6⟩ := hrel
    clear ha hb HG
    by_cases hy : 0 < y
    · have hm1 : 0 ≤ x % y := Int.emod_nonneg _ (by omega)
      have hm2 : x % y < y := Int.emod_lt_of_pos _ hy
      go_wp2_with fail
      go_quiet (fail)
      go_wp2
      exact ⟨⟨y, x % y, rfl, rfl, by omega, by omega, by omega, by omega, (by show gcdI y (x % y) = g; rw [gcdI_step h1 hy]; exact h5.out), h6.drewN nq⟩, by simp [intOf]; omega⟩
    · go_wp2
      go_ret
      exact ⟨ret_int (by rw [← h5.out]; exact (gcdI_zero h1 (by omega) h3).symm), h6⟩

set_option maxHeartbeats 800000 in
theorem l01Divisor_c (a b : Int) (w : World) (ha : -9000000000000000000 ≤ a ∧ a ≤ 9000000000000000000) (hb : -9000000000000000000 ≤ b ∧ b ≤ 9000000000000000000) :
    Calls Try.prog 154 #[.int .i64 a, .int .i64 b] w fun e w' => e = .returned (.int .i64 (gcdI a b)) ∧ Qt w w' := by
  generalize hg : gcdI a b = g
  have HG := Lib.hid hg
  clear hg
  obtain ⟨ha1, ha2⟩ := ha; obtain ⟨hb1, hb2⟩ := hb
  go_enter Try.func154, Try.ntmps154
  go_wp2
  all_goals (
    go_loopw [0, 1] (fun s t wr => ∃ x y : Int, s = .int .i64 x ∧ t = .int .i64 y ∧ 0 ≤ x ∧ x ≤ 9223372036854775807 ∧ 0 ≤ y ∧ y ≤ 9223372036854775807 ∧ Hid (gcdI x y = g) ∧ Qt w wr) (fun _ t _ => (intOf t).toNat)
    case atStart => exact ⟨_, _, rfl, rfl, by omega, by omega, by omega, by omega, (by have := HG.out; show gcdI _ _ = g; simpa only [gcdI_negl, gcdI_negr] using this), Qt.refl _⟩
    case round =>
      obtain ⟨x, y, rfl, rfl, h1, h2, h3, h4, h5, h6⟩ := hrel
      clear ha1 ha2 hb1 hb2 HG
      by_cases hy : 0 < y
      · have hm1 : 0 ≤ x % y := Int.emod_nonneg _ (by omega)
        have hm2 : x % y < y := Int.emod_lt_of_pos _ hy
        go_wp2_with fail
        go_quiet (fail)
        go_wp2
        exact ⟨⟨y, x % y, rfl, rfl, by omega, by omega, by omega, by omega, (by show gcdI y (x % y) = g; rw [gcdI_step h1 hy]; exact h5.out), h6.drewN nq⟩, by simp [intOf]; omega⟩
      · go_wp2
        go_ret
        exact ⟨ret_int (by rw [← h5.out]; exact (gcdI_zero h1 (by omega) h3).symm), h6⟩)

set_option maxHeartbeats 800000 in
set_option maxRecDepth 100000 in
theorem ratioOf_c (num den : Int) (w : World) (hn : -4000000000000000000 ≤ num ∧ num ≤ 4000000000000000000) (hd : -4000000000000000000 ≤ den ∧ den ≤ 4000000000000000000) (h0 : den ≠ 0) :
    Calls Try.prog 112 #[.int .i64 num, .int .i64 den] w fun e w' => e = .returned (.agg #[.int .i64 (ratOf num den).1, .int .i64 (ratOf num den).2]) ∧ Ext w w' := by
  obtain ⟨hn1, hn2⟩ := hn; obtain ⟨hd1, hd2⟩ := hd
  by_cases hs : den < 0
  · have e : sgnR num den = (-num, -den) := by simp [sgnR, hs]
    have ea := gcdI_abs (-num) (-den)
    unfold ratOf
    rw [e]
    have hg := gcdI_le (a := -num) (b := -den) (by omega)
    have hq1 := tdiv_bd (a := -num) (b := gcdI (-num) (-den)) (A := 4000000000000000000) (by omega)
    have hq2 := tdiv_bd (a := -den) (b := gcdI (-num) (-den)) (A := 4000000000000000000) (by omega)
    have HA := Lib.hid ea
    clear ea e
    have hb := absI_bd (-num) 4000000000000000000 (by omega)
    generalize gcdI (-num) (-den) = g at *
    have hg0 : ¬ g = 0 := by omega
    rw [Int.neg_tdiv] at hq1 hq2
    have hw1 : IntKind.i64.wrap (-num.tdiv g) = (-num.tdiv g) := IntWalk.i64_in _ (by omega)
    have hw2 : IntKind.i64.wrap (-den.tdiv g) = (-den.tdiv g) := IntWalk.i64_in _ (by omega)
    go_enter Try.func112, Try.ntmps112
    go_wp2_with fail
    refine (absOf_c _ _ (by omega)).mono ?_
    rintro e w' ⟨rfl, rfl⟩
    go_wp2_with fail
    refine (divisorOf_c _ _ _ (by omega) (by omega)).mono ?_
    rintro e w' ⟨rfl, hq⟩
    rw [HA.out]
    have c0 : w'.cell? ⟨w.heap.size, 0, none⟩ = some (.int .i64 0) := by rw [hq.cell]; simp
    have c1 : w'.cell? ⟨w.heap.size, 1, none⟩ = some (.int .i64 0) := by rw [hq.cell]; simp
    have f0 : w'.frozen? ⟨w.heap.size, 0, none⟩ = false := by rw [hq.frozen]; simp
    have f1 : w'.frozen? ⟨w.heap.size, 1, none⟩ = false := by rw [hq.frozen]; simp
    have he : Ext w w' := ((Ext.refl w).alloc _).qt hq
    clear hq
    go_wp2_with fail
    go_still_tail 7, (by kernel_rfl)
    change wpList _ _ _ _ _ w'.drew
    go_wp2
    refine bodyPost_ret (v := .agg #[.int .i64 (-num.tdiv g), .int .i64 (-den.tdiv g)]) (by simp [results, Try.results112, go_sem, c0, c1]) rfl ⟨by simp [Int.neg_tdiv], ?_⟩
    repeat (first | exact he | refine Ext.drew ?_ | refine Ext.set ?_ (by simp) _)
  · have e : sgnR num den = (num, den) := by simp [sgnR, hs]
    have ea := gcdI_abs num den
    unfold ratOf
    rw [e]
    have hg := gcdI_le (a := num) (b := den) (by omega)
    have hq1 := tdiv_bd (a := num) (b := gcdI num den) (A := 4000000000000000000) (by omega)
    have hq2 := tdiv_bd (a := den) (b := gcdI num den) (A := 4000000000000000000) (by omega)
    have HA := Lib.hid ea
    clear ea e
    have hb := absI_bd num 4000000000000000000 (by omega)
    generalize gcdI num den = g at *
    have hg0 : ¬ g = 0 := by omega
    have hw1 : IntKind.i64.wrap (num.tdiv g) = (num.tdiv g) := IntWalk.i64_in _ (by omega)
    have hw2 : IntKind.i64.wrap (den.tdiv g) = (den.tdiv g) := IntWalk.i64_in _ (by omega)
    go_enter Try.func112, Try.ntmps112
    go_wp2_with fail
    refine (absOf_c _ _ (by omega)).mono ?_
    rintro e w' ⟨rfl, rfl⟩
    go_wp2_with fail
    refine (divisorOf_c _ _ _ (by omega) (by omega)).mono ?_
    rintro e w' ⟨rfl, hq⟩
    rw [HA.out]
    have c0 : w'.cell? ⟨w.heap.size, 0, none⟩ = some (.int .i64 0) := by rw [hq.cell]; simp
    have c1 : w'.cell? ⟨w.heap.size, 1, none⟩ = some (.int .i64 0) := by rw [hq.cell]; simp
    have f0 : w'.frozen? ⟨w.heap.size, 0, none⟩ = false := by rw [hq.frozen]; simp
    have f1 : w'.frozen? ⟨w.heap.size, 1, none⟩ = false := by rw [hq.frozen]; simp
    have he : Ext w w' := ((Ext.refl w).alloc _).qt hq
    clear hq
    go_wp2_with fail
    go_still_tail 7, (by kernel_rfl)
    change wpList _ _ _ _ _ w'.drew
    go_wp2
    refine bodyPost_ret (v := .agg #[.int .i64 (num.tdiv g), .int .i64 (den.tdiv g)]) (by simp [results, Try.results112, go_sem, c0, c1]) rfl ⟨rfl, ?_⟩
    repeat (first | exact he | refine Ext.drew ?_ | refine Ext.set ?_ (by simp) _)

set_option maxHeartbeats 800000 in
set_option maxRecDepth 100000 in
theorem l01Ratio_c (num den : Int) (w : World) (hn : -4000000000000000000 ≤ num ∧ num ≤ 4000000000000000000) (hd : -4000000000000000000 ≤ den ∧ den ≤ 4000000000000000000) (h0 : den ≠ 0) :
    Calls Try.prog 145 #[.int .i64 num, .int .i64 den] w fun e w' => e = .returned (.agg #[.int .i64 (ratOf num den).1, .int .i64 (ratOf num den).2]) ∧ Ext w w' := by
  obtain ⟨hn1, hn2⟩ := hn; obtain ⟨hd1, hd2⟩ := hd
  by_cases hs : den < 0
  · have e : sgnR num den = (-num, -den) := by simp [sgnR, hs]
    unfold ratOf
    rw [e]
    have hg := gcdI_le (a := -num) (b := -den) (by omega)
    have hq1 := tdiv_bd (a := -num) (b := gcdI (-num) (-den)) (A := 4000000000000000000) (by omega)
    have hq2 := tdiv_bd (a := -den) (b := gcdI (-num) (-den)) (A := 4000000000000000000) (by omega)
    clear e
    have HA : Hid (gcdI (-num) (-den) = gcdI (-num) (-den)) := rfl
    generalize hgg : gcdI (-num) (-den) = g at *
    clear HA
    have HA := Lib.hid hgg
    clear hgg
    have hg0 : ¬ g = 0 := by omega
    rw [Int.neg_tdiv] at hq1 hq2
    have hw1 : IntKind.i64.wrap (-num.tdiv g) = (-num.tdiv g) := IntWalk.i64_in _ (by omega)
    have hw2 : IntKind.i64.wrap (-den.tdiv g) = (-den.tdiv g) := IntWalk.i64_in _ (by omega)
    go_enter Try.func145, Try.ntmps145
    go_wp2_with fail
    refine (l01Divisor_c _ _ _ (by omega) (by omega)).mono ?_
    rintro e w' ⟨rfl, hq⟩
    rw [HA.out]
    have c0 : w'.cell? ⟨w.heap.size, 0, none⟩ = some (.int .i64 0) := by rw [hq.cell]; simp
    have c1 : w'.cell? ⟨w.heap.size, 1, none⟩ = some (.int .i64 0) := by rw [hq.cell]; simp
    have f0 : w'.frozen? ⟨w.heap.size, 0, none⟩ = false := by rw [hq.frozen]; simp
    have f1 : w'.frozen? ⟨w.heap.size, 1, none⟩ = false := by rw [hq.frozen]; simp
    have he : Ext w w' := ((Ext.refl w).alloc _).qt hq
    clear hq
    go_wp2_with fail
    go_still_tail 7, (by kernel_rfl)
    change wpList _ _ _ _ _ w'.drew
    go_wp2
    refine bodyPost_ret (v := .agg #[.int .i64 (-num.tdiv g), .int .i64 (-den.tdiv g)]) (by simp [results, Try.results145, go_sem, c0, c1]) rfl ⟨by simp [Int.neg_tdiv], ?_⟩
    repeat (first | exact he | refine Ext.drew ?_ | refine Ext.set ?_ (by simp) _)
  · have e : sgnR num den = (num, den) := by simp [sgnR, hs]
    unfold ratOf
    rw [e]
    have hg := gcdI_le (a := num) (b := den) (by omega)
    have hq1 := tdiv_bd (a := num) (b := gcdI num den) (A := 4000000000000000000) (by omega)
    have hq2 := tdiv_bd (a := den) (b := gcdI num den) (A := 4000000000000000000) (by omega)
    clear e
    have HA : Hid (gcdI num den = gcdI num den) := rfl
    generalize hgg : gcdI num den = g at *
    clear HA
    have HA := Lib.hid hgg
    clear hgg
    have hg0 : ¬ g = 0 := by omega
    have hw1 : IntKind.i64.wrap (num.tdiv g) = (num.tdiv g) := IntWalk.i64_in _ (by omega)
    have hw2 : IntKind.i64.wrap (den.tdiv g) = (den.tdiv g) := IntWalk.i64_in _ (by omega)
    go_enter Try.func145, Try.ntmps145
    go_wp2_with fail
    refine (l01Divisor_c _ _ _ (by omega) (by omega)).mono ?_
    rintro e w' ⟨rfl, hq⟩
    rw [HA.out]
    have c0 : w'.cell? ⟨w.heap.size, 0, none⟩ = some (.int .i64 0) := by rw [hq.cell]; simp
    have c1 : w'.cell? ⟨w.heap.size, 1, none⟩ = some (.int .i64 0) := by rw [hq.cell]; simp
    have f0 : w'.frozen? ⟨w.heap.size, 0, none⟩ = false := by rw [hq.frozen]; simp
    have f1 : w'.frozen? ⟨w.heap.size, 1, none⟩ = false := by rw [hq.frozen]; simp
    have he : Ext w w' := ((Ext.refl w).alloc _).qt hq
    clear hq
    go_wp2_with fail
    go_still_tail 7, (by kernel_rfl)
    change wpList _ _ _ _ _ w'.drew
    go_wp2
    refine bodyPost_ret (v := .agg #[.int .i64 (num.tdiv g), .int .i64 (den.tdiv g)]) (by simp [results, Try.results145, go_sem, c0, c1]) rfl ⟨rfl, ?_⟩
    repeat (first | exact he | refine Ext.drew ?_ | refine Ext.set ?_ (by simp) _)

end Go.Proofs.Ytokhkpbebimohaa

/- Contracts of the functions over ratios, and of the exported functions over numbers. Conditions: the bounds that each states. -/
namespace Go.Proofs.Ytokhkpbebimohaa
set_option linter.unusedVariables false
open Go.RowKit

theorem isNaN_c (n : Int) (w : World) :
    Calls Try.prog 167 #[.int .i64 n] w fun e w' => e = .returned (.bool false) ∧ w = w' := by
  go_enter Try.func167, Try.ntmps167
  go_wp2
  go_ret
  exact ⟨ret_bool (by simp), rfl⟩

theorem cmpCompare_c (x y : Int) (w : World) :
    Calls Try.prog 152 #[.int .i64 x, .int .i64 y] w fun e w' => e = .returned (.int .i64 (cmpI x y)) ∧ w = w' := by
  go_enter Try.func152, Try.ntmps152
  go_wp2_with (go_at_call 167; refine (isNaN_c _ _).mono ?_; rintro e w' ⟨rfl, rfl⟩)
  all_goals go_ret
  all_goals exact ⟨ret_int (by simp [cmpI]; omega), rfl⟩

theorem compareRatios_c (a b c d : Int) (w : World) (h1 : -1000000000 ≤ a ∧ a ≤ 1000000000) (h2 : -1000000000 ≤ b ∧ b ≤ 1000000000)
    (h3 : -1000000000 ≤ c ∧ c ≤ 1000000000) (h4 : -1000000000 ≤ d ∧ d ≤ 1000000000) :
    Calls Try.prog 114 #[.agg #[.int .i64 a, .int .i64 b], .agg #[.int .i64 c, .int .i64 d]] w fun e w' => e = .returned (.int .i64 (cmpR (a, b) (c, d))) ∧ Ext w w' := by
  have m1 := mul_bd h1 h4
  have m2 := mul_bd h3 h2
  unfold cmpR
  go_enter Try.func114, Try.ntmps114
  go_wp2_with (go_at_call 152; refine (cmpCompare_c _ _ _).mono ?_; rintro e w' ⟨rfl, rfl⟩)
  go_ret
  exact ⟨rfl, ((Ext.refl w).alloc _).alloc _⟩

theorem l01Compare_c (a b c d : Int) (w : World) (h1 : -1000000000 ≤ a ∧ a ≤ 1000000000) (h2 : -1000000000 ≤ b ∧ b ≤ 1000000000)
    (h3 : -1000000000 ≤ c ∧ c ≤ 1000000000) (h4 : -1000000000 ≤ d ∧ d ≤ 1000000000) :
    Calls Try.prog 146 #[.agg #[.int .i64 a, .int .i64 b], .agg #[.int .i64 c, .int .i64 d]] w fun e w' => e = .returned (.int .i64 (cmpR (a, b) (c, d))) ∧ Ext w w' := by
  have m1 := mul_bd h1 h4
  have m2 := mul_bd h3 h2
  have w1 : IntKind.i64.wrap (a * d) = a * d := IntWalk.i64_in _ (by omega)
  have w2 : IntKind.i64.wrap (c * b) = c * b := IntWalk.i64_in _ (by omega)
  unfold cmpR
  go_enter Try.func146, Try.ntmps146
  go_wp2_with fail
  go_quiet (fail)
  clear w1 w2 m1 m2
  go_wp2
  all_goals go_ret
  all_goals exact ⟨ret_int (by simp [cmpI]; omega), by repeat (first | exact Ext.refl _ | refine Ext.drewN ?_ _ | refine Ext.drew ?_ | refine Ext.alloc ?_ _)⟩

set_option maxHeartbeats 400000 in
theorem isRatio_c1 (a b : Int) (w : World) (h1 : fin a = false) :
    Calls Try.prog 113 #[.agg #[.int .i64 a, .int .i64 b]] w fun e w' => e = .returned (.bool false) ∧ Ext w w' := by
  obtain ⟨W, hW, ⟨c0, c1, f0, f1⟩, hs, hE⟩ := alloc2_facts w (.int .i64 a) (.int .i64 b) 55
  clear hs f0 f1
  go_enter Try.func113, Try.ntmps113
  go_wp2_with fail
  go_big_quiet ((go_at_call 151; exact quiet_pure (asB h1 (isFinite_c _ _))))
  go_wp2
  go_ret
  exact ⟨rfl, hE.drewN _⟩
set_option maxHeartbeats 400000 in
theorem isRatio_c2 (a b : Int) (w : World) (h1 : fin a = true) (h2 : inR b 1 1000000 = false) :
    Calls Try.prog 113 #[.agg #[.int .i64 a, .int .i64 b]] w fun e w' => e = .returned (.bool false) ∧ Ext w w' := by
  obtain ⟨W, hW, ⟨c0, c1, f0, f1⟩, hs, hE⟩ := alloc2_facts w (.int .i64 a) (.int .i64 b) 55
  clear hs f0 f1
  go_enter Try.func113, Try.ntmps113
  go_wp2_with fail
  go_big_quiet ((first | (go_at_call 151; exact quiet_pure (asB h1 (isFinite_c _ _))) | (go_at_call 76; exact quiet_pure (asB h2 (within_c _ _ _ _)))))
  go_wp2
  go_ret
  exact ⟨rfl, hE.drewN _⟩
set_option maxHeartbeats 400000 in
theorem isRatio_c3 (a b : Int) (w : World) (h1 : fin a = true) (h2 : inR b 1 1000000 = true) :
    Calls Try.prog 113 #[.agg #[.int .i64 a, .int .i64 b]] w fun e w' => e = .returned (.bool (gcdI a b == 1)) ∧ Ext w w' := by
  have b1 := fin_iff.1 h1
  have b2 := inR_iff.1 h2
  have b3 := absI_bd a 1000000 (by omega)
  have e := gcdI_abs a b
  have HE := Lib.hid e
  clear e
  obtain ⟨W, hW, ⟨c0, c1, f0, f1⟩, hs, hE⟩ := alloc2_facts w (.int .i64 a) (.int .i64 b) 55
  clear hs f0 f1
  go_enter Try.func113, Try.ntmps113
  go_wp2_with fail
  go_big_quiet ((first | (go_at_call 151; exact quiet_pure (asB h1 (isFinite_c _ _))) | (go_at_call 76; exact quiet_pure (asB h2 (within_c _ _ _ _))) | (go_at_call 150; exact quiet_pure (absOf_c _ _ (by omega))) | (go_at_call 149; exact quiet_call (divisorOf_c _ _ _ (by omega) (by omega)))))
  go_wp2
  go_ret
  exact ⟨ret_bool (by rw [← HE.out]), hE.drewN _⟩
theorem isRatio_c (a b : Int) (w : World) :
    Calls Try.prog 113 #[.agg #[.int .i64 a, .int .i64 b]] w fun e w' => e = .returned (.bool (isRat (a, b))) ∧ Ext w w' := by
  unfold isRat
  cases h1 : fin a
  · exact isRatio_c1 a b w h1
  · cases h2 : inR b 1 1000000
    · exact isRatio_c2 a b w h1 h2
    · exact isRatio_c3 a b w h1 h2

theorem sIsRatio_c (a b : Int) (w : World) :
    Calls Try.prog 117 #[.agg #[.int .i64 a, .int .i64 b]] w fun e w' => e = .returned (.bool (isRat (a, b))) ∧ Ext w w' := by
  unfold isRat
  cases h1 : fin a
  · go_enter Try.func117, Try.ntmps117
    go_wp2_with (go_at_call 134; refine (l01Finite_c _ _).mono ?_; rintro e w' ⟨rfl, rfl⟩)
    go_ret
    exact ⟨ret_bool (by simp), ((Ext.refl w).alloc _)⟩
  · cases h2 : inR b 1 1000000
    · go_enter Try.func117, Try.ntmps117
      go_wp2_with (first | (go_at_call 134; refine (l01Finite_c _ _).mono ?_; rintro e w' ⟨rfl, rfl⟩) | (go_at_call 81; refine (l01In_c _ _ _ _).mono ?_; rintro e w' ⟨rfl, rfl⟩))
      go_ret
      exact ⟨ret_bool (by simp), ((Ext.refl w).alloc _)⟩
    · have b1 := fin_iff.1 h1
      have b2 := inR_iff.1 h2
      go_enter Try.func117, Try.ntmps117
      go_wp2_with (first | (go_at_call 134; refine (l01Finite_c _ _).mono ?_; rintro e w' ⟨rfl, rfl⟩) | (go_at_call 81; refine (l01In_c _ _ _ _).mono ?_; rintro e w' ⟨rfl, rfl⟩) | (go_at_call 154; refine (l01Divisor_c _ _ _ (by omega) (by omega)).mono ?_; rintro e w' ⟨rfl, hq⟩))
      go_ret
      exact ⟨ret_bool (by simp), ((Ext.refl w).alloc _).qt hq⟩

theorem cmpRatios_c (a b c d : Int) (w : World) :
    Calls Try.prog 50 #[.agg #[.int .i64 a, .int .i64 b], .agg #[.int .i64 c, .int .i64 d]] w fun e w' => e = .returned (.tuple #[.int .i64 (cmpRV (a, b) (c, d)).1, .int .i64 (cmpRV (a, b) (c, d)).2]) ∧ Ext w w' := by
  obtain ⟨W1, hW1, HA, hs1, hEA⟩ := alloc2_facts w (.int .i64 a) (.int .i64 b) 55
  obtain ⟨W2, hW2, HB, hs2, hEB⟩ := alloc2_facts W1 (.int .i64 c) (.int .i64 d) 55
  rw [hs1] at HB
  replace HA := HA.ext hEB
  have hE := hEA.trans hEB
  clear hs2 hEA hEB
  cases h1 : isRat (a, b)
  · have e : cmpRV (a, b) (c, d) = (0, 1) := by simp [cmpRV, h1]
    rw [e]
    clear e
    have c0 := HA.c0
    have c1 := HA.c1
    go_enter Try.func50, Try.ntmps50
    go_wp2_with fail
    refine (asB h1 (isRatio_c _ _ _)).mono ?_
    rintro e w' ⟨rfl, hE1⟩
    go_wp2
    go_ret2
    exact ⟨rfl, hE.trans hE1⟩
  cases h2 : isRat (c, d)
  · have e : cmpRV (a, b) (c, d) = (0, 1) := by simp [cmpRV, h2]
    rw [e]
    clear e
    have c0 := HA.c0
    have c1 := HA.c1
    go_enter Try.func50, Try.ntmps50
    go_wp2_with fail
    refine (asB h1 (isRatio_c _ _ _)).mono ?_
    rintro e w' ⟨rfl, hE1⟩
    obtain ⟨d0, d1, _, _⟩ := HB.ext hE1
    clear c0 c1
    go_wp2_with fail
    refine (asB h2 (isRatio_c _ _ _)).mono ?_
    rintro e w'' ⟨rfl, hE2⟩
    go_wp2
    go_ret2
    exact ⟨rfl, (hE.trans hE1).trans hE2⟩
  · have e : cmpRV (a, b) (c, d) = (cmpR (a, b) (c, d), 0) := by simp [cmpRV, h1, h2]
    rw [e]
    clear e
    have c0 := HA.c0
    have c1 := HA.c1
    go_enter Try.func50, Try.ntmps50
    go_wp2_with fail
    refine (asB h1 (isRatio_c _ _ _)).mono ?_
    rintro e w' ⟨rfl, hE1⟩
    obtain ⟨d0, d1, _, _⟩ := HB.ext hE1
    clear c0 c1
    go_wp2_with fail
    refine (asB h2 (isRatio_c _ _ _)).mono ?_
    rintro e w'' ⟨rfl, hE2⟩
    obtain ⟨d0, d1, _, _⟩ := (HB.ext hE1).ext hE2
    obtain ⟨e0, e1, _, _⟩ := (HA.ext hE1).ext hE2
    have b1 := isRat_bd h1
    have b2 := isRat_bd h2
    go_wp2_with fail
    refine (compareRatios_c _ _ _ _ _ b1.1 b1.2 b2.1 b2.2).mono ?_
    rintro e w3 ⟨rfl, hE3⟩
    go_wp2
    go_ret2
    exact ⟨rfl, ((hE.trans hE1).trans hE2).trans hE3⟩

end Go.Proofs.Ytokhkpbebimohaa
