/- Contracts of paths and cycles. Conditions: the forms of the matrices, the lengths of the lists. -/
import Derived.Test.YtljchmkoafahgaaM8
import Derived.Test.YtljchmkoafahgaaP6
namespace Go.Proofs.Ytljchmkoafahgaa
set_option linter.unusedVariables false
set_option linter.unusedSimpArgs false
open Go.RowKit

theorem IntsAt.take {w : World} {a : Option Addr} {xs : List Int} (h : IntsAt w a xs) (k : Nat) (hk : k ≤ xs.length) : IntsAt w a (xs.take k) := by
  have hl : (xs.take k).length = k := by simp; omega
  refine ⟨by have := h.1; omega, fun hn => ?_⟩
  have hne : xs ≠ [] := by rintro rfl; simp at hn
  obtain ⟨b, o, e, hc⟩ := h.2 hne
  exact ⟨b, o, e, fun i hi => by rw [nth_take (by omega)]; exact hc i (by omega)⟩
def has (xs : List Int) (v : Int) : Bool := xs.contains v
theorem has_yes {xs : List Int} {v : Int} {k : Nat} (h : k < xs.length) (e : nth xs k = v) : has xs v = true := has_iff.2 ⟨k, h, e⟩
theorem has_not {xs : List Int} {v : Int} (h : ∀ i, i < xs.length → nth xs i ≠ v) : has xs v = false := has_no h
def inAll (lo hi : Int) (xs : List Int) : Bool := xs.all fun v => inR v lo hi
theorem nodes_in (n : Nat) (xs : List Int) : nodes n xs = inAll 0 ((n : Int) - 1) xs := rfl
theorem inAll_iff {lo hi : Int} {xs : List Int} : inAll lo hi xs = true ↔ ∀ i, i < xs.length → inR (nth xs i) lo hi = true := by
  unfold inAll; rw [List.all_eq_true]
  constructor
  · intro h i hi; rw [nth_of_lt hi]; exact h _ (List.getElem_mem hi)
  · intro h x hx
    obtain ⟨i, hi, rfl⟩ := List.getElem_of_mem hx
    have := h i hi; rwa [nth_of_lt hi] at this
theorem inAll_no {lo hi : Int} {xs : List Int} {i : Nat} (hi' : i < xs.length) (h : inR (nth xs i) lo hi = false) : inAll lo hi xs = false := by
  cases e : inAll lo hi xs
  · rfl
  · have := inAll_iff.1 e i hi'; rw [h] at this; cases this

theorem isNode_c (a : Option Addr) (n cap : Nat) (v : Int) (w : World) (hn : n ≤ 9223372036854775807) :
    Calls Try.prog 75 #[.slice a n cap, .int .i64 v] w fun e w' => e = .returned (.bool (inR v 0 ((n : Int) - 1))) ∧ w = w' := by
  go_enter Try.func75, Try.ntmps75
  go_wp2_with fail
  refine (within_c _ _ _ _).mono ?_
  rintro e w' ⟨rfl, rfl⟩
  go_wp2
  go_ret
  exact ⟨rfl, rfl⟩
theorem l03Node_c (a : Option Addr) (n cap : Nat) (v : Int) (w : World) (hn : n ≤ 9223372036854775807) :
    Calls Try.prog 72 #[.slice a n cap, .int .i64 v] w fun e w' => e = .returned (.bool (inR v 0 ((n : Int) - 1))) ∧ w = w' := by
  go_enter Try.func72, Try.ntmps72
  go_wp2_with fail
  refine (l01In_c _ _ _ _).mono ?_
  rintro e w' ⟨rfl, rfl⟩
  go_wp2
  go_ret
  exact ⟨rfl, rfl⟩

theorem l01Within_c (a : Option Addr) (cap : Nat) (xs : List Int) (lo hi : Int) (w : World) (h : IntsAt w a xs) :
    Calls Try.prog 166 #[.slice a xs.length cap, .int .i64 (xs.length : Int), .int .i64 lo, .int .i64 hi] w fun e w' => e = .returned (.bool (inAll lo hi xs)) ∧ w = w' := by
  have hlen := h.len
  go_enter Try.func166, Try.ntmps166
  go_wp2
  go_loop [9] (fun i => ∃ k : Nat, k ≤ xs.length ∧ i = .int .i64 k ∧ Hid (∀ j, j < k → inR (nth xs j) lo hi = true)) (fun i => xs.length - (intOf i).toNat)
  case atStart => exact ⟨0, Nat.zero_le _, rfl, fun j hj => absurd hj (Nat.not_lt_zero _)⟩
  case round =>
    obtain ⟨k, hk, rfl, hj⟩ := hrel
    by_cases hlt : k < xs.length
    · obtain ⟨b, o, rfl, hc⟩ := h.at hlt
      have c1 := hc k hlt
      clear hc
      cases hv : inR (nth xs k) lo hi
      · have Hv := Lib.hid hv
        clear hv
        go_wp2_with fail
        refine (asB Hv.out (l01In_c _ _ _ _)).mono ?_
        rintro e w' ⟨rfl, rfl⟩
        go_wp2
        go_ret
        exact ⟨ret_bool (by rw [inAll_no hlt Hv.out]), rfl⟩
      · have Hv := Lib.hid hv
        clear hv
        go_wp2_with fail
        refine (asB Hv.out (l01In_c _ _ _ _)).mono ?_
        rintro e w' ⟨rfl, rfl⟩
        go_wp2
        go_round
        case rel => exact ⟨k + 1, by omega, by go_num, fun j h => by
          by_cases e : j = k
          · subst e; exact Hv.out
          · exact hj.out j (by omega)⟩
        case measure => simp [intOf]; omega
    · go_wp2
      go_ret
      exact ⟨ret_bool (by rw [inAll_iff.2 fun i hi => hj.out i (by omega)]), rfl⟩
theorem l03Nodes_c (a b : Option Addr) (n ca cb : Nat) (xs : List Int) (w : World) (h : IntsAt w b xs) (hn : n ≤ 9223372036854775807) :
    Calls Try.prog 152 #[.slice a n ca, .slice b xs.length cb] w fun e w' => e = .returned (.bool (nodes n xs)) ∧ w = w' := by
  have hlen := h.len
  go_enter Try.func152, Try.ntmps152
  go_wp2_with fail
  refine (l01Within_c _ _ _ _ _ _ h).mono ?_
  rintro e w' ⟨rfl, rfl⟩
  go_wp2
  go_ret
  exact ⟨rfl, rfl⟩

theorem slIndex_c (a : Option Addr) (cap : Nat) (xs : List Int) (v : Int) (w : World) (h : IntsAt w a xs) :
    Calls Try.prog 157 #[.slice a xs.length cap, .int .i64 v] w fun e w' => (∃ r : Int, e = .returned (.int .i64 r) ∧ decide (0 ≤ r) = has xs v) ∧ w = w' := by
  have hlen := h.len
  go_enter Try.func157, Try.ntmps157
  go_wp2
  go_loop [8] (fun i => ∃ k : Nat, k ≤ xs.length ∧ i = .int .i64 k ∧ Hid (∀ j, j < k → nth xs j ≠ v)) (fun i => xs.length - (intOf i).toNat)
  case atStart => exact ⟨0, Nat.zero_le _, rfl, fun j hj => absurd hj (Nat.not_lt_zero _)⟩
  case round =>
    obtain ⟨k, hk, rfl, hj⟩ := hrel
    by_cases hlt : k < xs.length
    · obtain ⟨b, o, rfl, hc⟩ := h.at hlt
      have c1 := hc k hlt
      clear hc
      by_cases hv : v = nth xs k
      · have hb : (v == nth xs k) = true := by simpa using hv
        have Hv := Lib.hid hv
        clear hv
        go_wp2
        go_ret
        exact ⟨⟨_, rfl, by rw [has_yes hlt Hv.out.symm]; simp⟩, rfl⟩
      · have hb : (v == nth xs k) = false := by simpa using hv
        have Hv := Lib.hid hv
        clear hv
        go_wp2
        go_round
        case rel => exact ⟨k + 1, by omega, by go_num, fun j h => by
          by_cases e : j = k
          · subst e; exact fun e => Hv.out e.symm
          · exact hj.out j (by omega)⟩
        case measure => simp [intOf]; omega
    · go_wp2
      go_ret
      exact ⟨⟨_, rfl, by rw [has_not fun i hi => hj.out i (by omega)]; rfl⟩, rfl⟩
theorem slContains_c (a : Option Addr) (cap : Nat) (xs : List Int) (v : Int) (w : World) (h : IntsAt w a xs) :
    Calls Try.prog 122 #[.slice a xs.length cap, .int .i64 v] w fun e w' => e = .returned (.bool (has xs v)) ∧ w = w' := by
  have hlen := h.len
  go_enter Try.func122, Try.ntmps122
  go_wp2_with fail
  refine (slIndex_c _ _ _ _ _ h).mono ?_
  rintro e w' ⟨⟨r, rfl, hr⟩, rfl⟩
  have Hr := Lib.hid hr
  clear hr
  go_wp2
  go_ret
  exact ⟨ret_bool (by rw [← Hr.out]), rfl⟩
theorem l01Has_c (a : Option Addr) (cap : Nat) (xs : List Int) (v : Int) (w : World) (h : IntsAt w a xs) :
    Calls Try.prog 129 #[.slice a xs.length cap, .int .i64 v] w fun e w' => e = .returned (.bool (has xs v)) ∧ w = w' := by
  have hlen := h.len
  go_enter Try.func129, Try.ntmps129
  go_wp2
  go_loop [5] (fun i => ∃ k : Nat, k ≤ xs.length ∧ i = .int .i64 k ∧ Hid (∀ j, j < k → nth xs j ≠ v)) (fun i => xs.length - (intOf i).toNat)
  case atStart => exact ⟨0, Nat.zero_le _, rfl, fun j hj => absurd hj (Nat.not_lt_zero _)⟩
  case round =>
    obtain ⟨k, hk, rfl, hj⟩ := hrel
    by_cases hlt : k < xs.length
    · obtain ⟨b, o, rfl, hc⟩ := h.at hlt
      have c1 := hc k hlt
      clear hc
      by_cases hv : nth xs k = v
      · have hb : (nth xs k == v) = true := by simpa using hv
        have Hv := Lib.hid hv
        clear hv
        go_wp2
        go_ret
        exact ⟨ret_bool (by rw [has_yes hlt Hv.out]), rfl⟩
      · have hb : (nth xs k == v) = false := by simpa using hv
        have Hv := Lib.hid hv
        clear hv
        go_wp2
        go_round
        case rel => exact ⟨k + 1, by omega, by go_num, fun j h => by
          by_cases e : j = k
          · subst e; exact Hv.out
          · exact hj.out j (by omega)⟩
        case measure => simp [intOf]; omega
    · go_wp2
      go_ret
      exact ⟨ret_bool (by rw [has_not fun i hi => hj.out i (by omega)]), rfl⟩

/-- a node, as a natural number -/
theorem node_nat {n : Nat} {v : Int} (h : inR v 0 ((n : Int) - 1) = true) : ∃ u : Nat, v = (u : Int) ∧ u < n ∧ v.toNat = u := by
  have := inR_iff.1 h
  exact ⟨v.toNat, by omega, by omega, rfl⟩

set_option maxHeartbeats 1000000 in
theorem cycleWeight_c {B : Nat} (a b : Option Addr) (ca cb : Nat) (x : List (List Int)) (xs : List Int) (w : World) (hx : MatAt w a x) (hs : isSq x = true) (hy : OwnI w B (.slice b xs.length cb) xs) (hl : xs.length ≤ 1048576) :
    Calls Try.prog 70 #[.slice a x.length ca, .slice b xs.length cb] w fun e w' => e = .returned (.tuple #[.int .i64 ((cycleO x xs).getD 0), .bool (cycleO x xs).isSome]) ∧ w = w' := by
  obtain ⟨rx, hn1, hn2⟩ := isSq_rect hs
  rcases hy.form with ⟨h1, h2⟩ | ⟨g, cap, h1, hBg, hg, hle, hmx, -, -⟩
  · subst h2
    simp only [Value.slice.injEq] at h1
    obtain ⟨rfl, _, rfl⟩ := h1
    have e : cycleO x [] = none := rfl
    rw [e]; clear e
    go_enter Try.func70, Try.ntmps70
    go_wp2
    go_ret2
    exact ⟨rfl, rfl⟩
  simp only [Value.slice.injEq, Option.some.injEq, Addr.mk.injEq, and_true, true_and] at h1
  obtain ⟨rfl, rfl⟩ := h1
  have hyi := hy.ints
  by_cases h0 : xs.length = 0
  · have e : cycleO x xs = none := by unfold cycleO; rw [if_pos h0]
    rw [e]; clear e
    rw [h0]
    go_enter Try.func70, Try.ntmps70
    go_wp2
    go_ret2
    exact ⟨rfl, rfl⟩
  have hpos : 0 < xs.length := by omega
  have hb0 : before xs 0 = nth xs (xs.length - 1) := by unfold before; rw [if_pos rfl]
  have cl := hyi.cell (i := xs.length - 1) (by omega)
  rw [← hb0, Nat.zero_add] at cl
  have el : ((xs.length : Int) - 1) = ((xs.length - 1 : Nat) : Int) := by omega
  have eq1 : ((xs.length : Int) == 0) = false := by rw [beq_eq_false_iff_ne]; omega
  have HY := Lib.hid (And.intro hyi (And.intro hx (And.intro rx hs)))
  obtain ⟨p, o, rfl⟩ := hx.base (by omega)
  have hcO : cycleO x xs = cycO x xs xs.length := by unfold cycleO; rw [if_neg h0]
  have HcO := Lib.hid hcO
  clear hcO hyi hy hb0 rx hx hs
  go_enter Try.func70, Try.ntmps70
  go_wp2
  clear el cl eq1
  go_loop [6, 7, 21] (fun s b i => ∃ (k : Nat) (t : Int), k ≤ xs.length ∧ i = .int .i64 k ∧ s = .int .i64 t ∧ b = .int .i64 (if k = 0 then before xs 0 else nth xs (k - 1)) ∧ Hid (cycO x xs k = some t)) (fun _ _ i => xs.length - (intOf i).toNat)
  case atStart => exact ⟨0, 0, Nat.zero_le _, rfl, rfl, by rw [if_pos rfl], rfl⟩
  case round =>
    obtain ⟨k, t, hk, rfl, rfl, rfl, hj⟩ := hrel
    by_cases hlt : k < xs.length
    · have eb : (if k = 0 then before xs 0 else nth xs (k - 1)) = before xs k := by
        unfold before; by_cases e : k = 0
        · subst e; simp
        · rw [if_neg e, if_neg e]
      rw [eb]; clear eb
      have c1 := HY.out.1.cell hlt
      rw [Nat.zero_add] at c1
      have hxl := HY.out.2.1.len
      have htk : (xs.take k).length = k := by simp; omega
      have hti := HY.out.1.take k (by omega)
      cases s1 : inR (nth xs k) 0 ((x.length : Int) - 1)
      · have hno : cycO x xs xs.length = none := cycO_not hlt (by unfold stepOk; rw [s1]; simp)
        have Hno := Lib.hid hno
        have S1 := Lib.hid s1
        clear hno s1 hti htk
        go_wp2_with fail
        refine (asB S1.out (isNode_c _ _ _ _ _ hxl)).mono ?_
        rintro e w' ⟨rfl, rfl⟩
        go_wp2
        go_ret2
        rw [HcO.out, Hno.out]; exact ⟨rfl, rfl⟩
      cases s2 : inR (before xs k) 0 ((x.length : Int) - 1)
      · have hno : cycO x xs xs.length = none := cycO_not hlt (by unfold stepOk; rw [s2]; simp)
        have Hno := Lib.hid hno
        have S1 := Lib.hid s1
        have S2 := Lib.hid s2
        clear hno s1 s2 hti htk
        go_wp2_with fail
        refine (asB S1.out (isNode_c _ _ _ _ _ hxl)).mono ?_
        rintro e w' ⟨rfl, rfl⟩
        go_wp2_with fail
        refine (asB S2.out (isNode_c _ _ _ _ _ hxl)).mono ?_
        rintro e w' ⟨rfl, rfl⟩
        go_wp2
        go_ret2
        rw [HcO.out, Hno.out]; exact ⟨rfl, rfl⟩
      have hCo := slContains_c (some ⟨g, 0, none⟩) cb (xs.take k) (nth xs k) w hti
      rw [htk] at hCo
      cases s3 : has (xs.take k) (nth xs k)
      · obtain ⟨u, hu, hun, hut⟩ := node_nat s1
        obtain ⟨v, hv, hvn, hvt⟩ := node_nat s2
        obtain ⟨q, o2, c, d1, dd, _⟩ := HY.out.2.1.hdr HY.out.2.2.1 hun (Nat.lt_of_le_of_lt (Nat.zero_le _) hvn)
        have d2 := dd v hvn
        clear dd
        by_cases s4 : ent x u v = -1000000000000000
        · have hno : cycO x xs xs.length = none := cycO_not hlt (by unfold stepOk; rw [hut, hvt, s4]; simp)
          have Hno := Lib.hid hno
          have S1 := Lib.hid s1
          have S2 := Lib.hid s2
          have HC := Lib.hid (asB (c := false) s3 hCo)
          rw [s4] at d2
          rw [hu] at c1 S1 HC
          rw [hv] at S2 ⊢
          clear hno s1 s2 s3 s4 hti htk hCo
          go_wp2_with fail
          refine (asB S1.out (isNode_c _ _ _ _ _ hxl)).mono ?_
          rintro e w' ⟨rfl, rfl⟩
          go_wp2_with fail
          refine (asB S2.out (isNode_c _ _ _ _ _ hxl)).mono ?_
          rintro e w' ⟨rfl, rfl⟩
          go_wp2_with fail
          refine HC.out.mono ?_
          rintro e w' ⟨rfl, rfl⟩
          go_wp2
          go_ret2
          rw [HcO.out, Hno.out]; exact ⟨rfl, rfl⟩
        · have hs4 : (ent x u v == -1000000000000000) = false := by simpa using s4
          have hok : stepOk x xs k = true := by unfold stepOk; rw [s1, s2, show (xs.take k).contains (nth xs k) = false from s3, hut, hvt, hs4]; rfl
          have hnext : cycO x xs (k + 1) = some (t + ent x u v) := by
            simp only [cycO]; rw [hj.out]; simp only [hok, if_true, hut, hvt]
          have hbt := cycO_bd HY.out.2.2.2 hj.out
          have hbe := isSq_ebd1 HY.out.2.2.2 s4
          have hbk : before xs (k + 1) = nth xs k := by unfold before; rw [if_neg (by omega)]; rfl
          have Hn := Lib.hid hnext
          have S1 := Lib.hid s1
          have S2 := Lib.hid s2
          have HC := Lib.hid (asB (c := false) s3 hCo)
          have Hu := Lib.hid hu
          rw [hu] at c1 S1 HC
          rw [hv] at S2 ⊢
          clear hnext s1 s2 s3 s4 hti htk hCo hok hbk hu hv hj
          have hbt2 : -1048576000000 ≤ t ∧ t ≤ 1048576000000 := by omega
          clear hbt
          generalize ent x u v = z at d2 hbe Hn
          go_wp2_with fail
          refine (asB S1.out (isNode_c _ _ _ _ _ hxl)).mono ?_
          rintro e w' ⟨rfl, rfl⟩
          go_wp2_with fail
          refine (asB S2.out (isNode_c _ _ _ _ _ hxl)).mono ?_
          rintro e w' ⟨rfl, rfl⟩
          go_wp2_with fail
          refine HC.out.mono ?_
          rintro e w' ⟨rfl, rfl⟩
          go_wp2
          go_round
          case rel => exact ⟨k + 1, _, by omega, by go_num, rfl, by rw [if_neg (by omega), Nat.add_sub_cancel, Hu.out], Hn⟩
          case measure => simp [intOf]; omega
      · have hno : cycO x xs xs.length = none := cycO_not hlt (by unfold stepOk; rw [show (xs.take k).contains (nth xs k) = true from s3]; simp)
        have Hno := Lib.hid hno
        have S1 := Lib.hid s1
        have S2 := Lib.hid s2
        have HC := Lib.hid (asB (c := true) s3 hCo)
        clear hno s1 s2 s3 hti htk hCo
        go_wp2_with fail
        refine (asB S1.out (isNode_c _ _ _ _ _ hxl)).mono ?_
        rintro e w' ⟨rfl, rfl⟩
        go_wp2_with fail
        refine (asB S2.out (isNode_c _ _ _ _ _ hxl)).mono ?_
        rintro e w' ⟨rfl, rfl⟩
        go_wp2_with fail
        refine HC.out.mono ?_
        rintro e w' ⟨rfl, rfl⟩
        go_wp2
        go_ret2
        rw [HcO.out, Hno.out]; exact ⟨rfl, rfl⟩
    · obtain rfl : k = xs.length := by omega
      go_wp2
      go_ret2
      rw [HcO.out, hj.out]; exact ⟨rfl, rfl⟩
end Go.Proofs.Ytljchmkoafahgaa
