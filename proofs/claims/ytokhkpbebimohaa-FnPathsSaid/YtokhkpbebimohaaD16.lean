/- Contracts of l03DrawCycle, DrawIsCycle and DrawMeanOf. Conditions: the code lies in memory; the source reads. -/
import Derived.Test.YtokhkpbebimohaaD15
import Derived.Deep.RegionHeld3
namespace Go.Proofs.Ytokhkpbebimohaa
set_option linter.unusedVariables false
set_option linter.unusedSimpArgs false
open Go.RowKit

/-- append of a part of a slice of integers, as a step of a region that draws -/
theorem step_app_is {ops : Array Oper} {o : Oper} {a : Act} {K : Act → World → Prop} {Q : Exit → Act → World → Prop} {E : Prop} {w : World} (hgd : o.guard = none) (s x : Operand)
    (ho : o.op = .call { callee := .builtin .append, args := #[s, x], argTypes := #[34, 34] })
    (B : Nat) (v : Value) (xs : List Int) (hs : a.eval s = v) (hown : OwnI w B v xs) (ad : Addr) (n c : Nat) (ys : List Int) (hn : ys.length = n) (hx : a.eval x = .slice (some ad) n c) (hc : IntsAt w (some ad) ys)
    (hl : xs.length + ys.length ≤ 1000000000) (hB : B ≤ w.heap.size)
    (h : ∀ v' w', OwnI w' B v' (xs ++ ys) → w.grownBy w' v.ownBlock → K (a.put o.dst v') w') :
    if Region.wanted o (yielded ops a.tmps) = true then Oper.wp Try.prog o a w K Q else E := by
  subst hn
  obtain ⟨i0, hi, hz0, hz1, hz2⟩ := info_parts info_i
  have hw : Region.wanted o (yielded ops a.tmps) = true := by simp [Region.wanted, hgd]
  rw [if_pos hw]
  refine wp_append_own w s x 34 ho B 2 i0 (.int .i64 0) 1 8 Try.underlying34 hi hz0 hz1 hz2 rfl (by decide) v xs.length (xs.map (Value.int .i64)) hs hown ad ys.length c (ys.map (Value.int .i64)) hx (by simp) ?_ ?_ ?_ ?_ hB ?_
  · intro j u hj
    have hlt : j < ys.length := by
      rcases Nat.lt_or_ge j ys.length with h | h
      · exact h
      · rw [List.getElem?_eq_none (by simpa using h)] at hj; simp at hj
    obtain ⟨b, o, e, hcc⟩ := hc.at hlt
    simp only [Option.some.injEq] at e
    subst e
    rw [Addr.add_lit, hcc j hlt]
    simp [hlt] at hj
    rw [nth_of_lt hlt, hj]
  · intro u hu
    simp only [List.mem_map] at hu
    obtain ⟨n, _, rfl⟩ := hu
    rfl
  · have : maxLen = 9223372036854775807 := rfl
    omega
  · omega
  · intro v' w' h1 h2 _
    refine h v' w' ?_ h2
    unfold OwnI
    simpa using h1
theorem IntsAt.drop {w : World} {g : Nat} {xs : List Int} (h : IntsAt w (some ⟨g, 0, none⟩) xs) (k : Nat) : IntsAt w (some ⟨g, k, none⟩) (xs.drop k) :=
  ⟨Nat.le_trans (by simp) h.1, fun hn => ⟨g, k, rfl, fun i hi => by
    have hi' : k + i < xs.length := by simp at hi; omega
    obtain ⟨b, o, e, hc⟩ := h.at hi'
    simp only [Option.some.injEq, Addr.mk.injEq, and_true] at e
    obtain ⟨rfl, rfl⟩ := e
    have := hc (k + i) hi'
    rw [Nat.zero_add] at this
    rw [this]; unfold nth; simp [List.getD_eq_getElem?_getD, List.getElem?_drop]⟩⟩
theorem over_I64 {x : Int} (h : ∃ i, i < [(-1000000000000000 : Int), -20, -5, 0].length ∧ x = nth [(-1000000000000000 : Int), -20, -5, 0] i) : -1000000000000000 ≤ x ∧ x ≤ 1000000000000000 := by
  obtain ⟨i, hi, rfl⟩ := h
  have : i = 0 ∨ i = 1 ∨ i = 2 ∨ i = 3 := by simp at hi; omega
  rcases this with rfl | rfl | rfl | rfl <;> exact ⟨by decide, by decide⟩
/-- a law's drawn matrix and a list -/
def DrawnMi (w : World) (e : Ending) (w' : World) : Prop := ∃ a cap M v cv xs, e = .returned (.tuple #[.slice a (M : List (List Int)).length cap, .slice v (xs : List Int).length cv]) ∧ OwnM w' w.heap.size (.slice a M.length cap) M ∧ M.length ≤ 100 ∧ OwnI w' w.heap.size (.slice v xs.length cv) xs ∧ xs.length ≤ 101 ∧ Ext w w'
set_option maxRecDepth 100000 in
set_option maxHeartbeats 4000000 in
theorem l03DrawCycle_c (b B : Nat) (a : Option Addr) (cap : Nat) (M : List (List Int)) (w : World) (h : Src w b) (hO : OwnM w B (.slice a M.length cap) M) (hbB : b < B) (hl : M.length ≤ 100) :
    Calls Try.prog 147 #[.pointer (some ⟨b, 0, none⟩), .slice a M.length cap] w (DrI b 101 w) := by
  have hbw := h.lt
  rw [show (DrI b 101 w) = fun e w' => ∃ a cap xs, e = .returned (.slice a (xs : List Int).length cap) ∧ OwnI w' w.heap.size (.slice a xs.length cap) xs ∧ xs.length ≤ 101 ∧ Src w' b ∧ w.grownBy w' (some b) from rfl]
  have hdn := fun (w' : World) (h1 : Src w' b) (h2 : OwnM w' B (.slice a M.length cap) M) => l03DrawNodes_c b B a cap M w' h1 h2 hbB hl
  have HDn := Lib.hid hdn
  clear hdn
  cases hs : isSq M
  · go_enter Try.func147, Try.ntmps147
    go_wp2_with fail
    refine (asB hs (l02Square_c _ _ _ _ hO.mat)).mono ?_
    rintro e w1 ⟨rfl, q1⟩
    have hS1 := h.ext q1.ext
    have hO1 := hO.ext q1.ext
    have hG1 := grownBy_ext (some b) q1.ext
    have hz1 := q1.ext.size
    clear h hO q1
    go_wp2_with fail
    refine (HDn.out _ hS1 hO1).mono ?_
    rintro e w2 ⟨v, c, xs, rfl, hI, hxl, hS2, hG2⟩
    have hI' := hI.mono hz1
    have hG := grownBy_trans hG1 hG2
    clear hI hG1 hG2 hO1 hS1
    go_wp2
    go_ret
    exact ⟨v, c, xs, rfl, hI', hxl, hS2, hG⟩
  have hov := fun over ho w' hx => l03Over_c M rfl (YOk.of_sq hs) over ho a cap w' hx
  have HOv := Lib.hid hov
  clear hov
  have hll := (isSq_rect hs).2
  go_enter Try.func147, Try.ntmps147
  go_wp2_with fail
  refine (asB hs (l02Square_c _ _ _ _ hO.mat)).mono ?_
  rintro e w1 ⟨rfl, q1⟩
  have hS1 := h.ext q1.ext
  have hO1 := hO.ext q1.ext
  have hG1 := grownBy_ext (some b) q1.ext
  clear h hO q1
  go_wp2_with fail
  refine (l01Next_b b _ _ hS1 (by omega) (by omega)).mono ?_
  rintro e w2 ⟨k2, rfl, -, hS2, hG2⟩
  have hO2 := hO1.drawnB hbB hG2
  replace hG2 := grownBy_trans hG1 hG2
  clear hS1 hO1 hG1
  by_cases h0 : 0 < k2
  · have hb2 : b ≠ w2.heap.size := by have := hS2.lt; omega
    have hL := ints_lit w2 [-1000000000000000, -20, -5, 0] (by decide)
    have hS3 := hS2.alloc (.cells #[.int .i64 (-1000000000000000), .int .i64 (-20), .int .i64 (-5), .int .i64 0] 2)
    have hO3 := hO2.ext ((Ext.refl w2).alloc (.cells #[.int .i64 (-1000000000000000), .int .i64 (-20), .int .i64 (-5), .int .i64 0] 2))
    have hG3 := grownBy_trans hG2 (grownBy_ext (some b) ((Ext.refl w2).alloc (.cells #[.int .i64 (-1000000000000000), .int .i64 (-20), .int .i64 (-5), .int .i64 0] 2)))
    clear hS2 hO2 hG2
    go_wp2_with fail
    refine (l01Pick_c b _ _ [-1000000000000000, -20, -5, 0] _ hS3 hL (by decide) (by decide) (fun o e => hb2 (by simp at e <;> exact e.1.symm))).mono ?_
    rintro e w4 ⟨ov, rfl, hov, hS4, hG4⟩
    have hO4 := hO3.drawnB hbB hG4
    replace hG4 := grownBy_trans hG3 hG4
    have hovb := over_I64 hov
    clear hS3 hO3 hG3 hL hov
    go_wp2_with fail
    refine (HOv.out ov hovb _ hO4.mat).mono ?_
    rintro e w5 ⟨b5, c5, out, rfl, hI5, hP5, hE5⟩
    have hol : out.length ≤ 10 := by
      rcases hP5 with ⟨rfl, _⟩ | hf
      · simp
      · have := hf.len; omega
    have hS5 := hS4.ext hE5
    have hO5 := hO4.ext hE5
    have hI5' := hI5.mono hG4.size
    have hG5 := grownBy_trans hG4 (grownBy_ext (some b) hE5)
    clear hP5 hS4 hO4 hG4 hovb hE5 hI5
    by_cases hn : 0 < out.length
    · go_wp2_with fail
      refine (l01Next_b b _ _ hS5 (by omega) (by omega)).mono ?_
      rintro e w6 ⟨k6, rfl, hk6, hS6, hG6⟩
      have hk7 : k6 < out.length := by omega
      have hI6 := hI5'.drawnB hbw hG6
      replace hG6 := grownBy_trans hG5 hG6
      obtain ⟨g, rfl, hBg, hgs, -, -⟩ := hI6.open hn
      have hle : out.length ≤ c5 := by
        rcases hI6.form with ⟨h1, h2⟩ | ⟨g', cap', h1, -, -, h3, -, -, -⟩
        · rw [h2] at hn; simp at hn
        · simp only [Value.slice.injEq] at h1; omega
      have hown := fun w' (q : Ext w6 w') => l01Own_c (some ⟨g, k6, none⟩) (c5 - k6) (out.drop k6) w' ((hI6.ints.drop k6).mono q) (by simp) (by simp; omega)
      rw [List.length_drop] at hown
      have hdl : (out.drop k6).length = out.length - k6 := List.length_drop
      have htl : (out.take k6).length = k6 := by simp; omega
      have htk := fun w' (q : Ext w6 w') => (hI6.ints.take k6 (by omega)).mono q
      have hsum : (out.drop k6).length + (out.take k6).length ≤ 1000000000 := by omega
      have HOw := Lib.hid hown
      have HTk := Lib.hid htk
      have hz6 := hG6.size
      clear hS5 hO5 hI5' hG5 hI6 hown htk
      have z1 : (0 : Int) ≤ (k6 : Int) := by omega
      have z2 : (k6 : Int) ≤ (out.length : Int) := by omega
      have z3 : (out.length : Int) ≤ (c5 : Int) := by omega
      have z4 : (k6 : Int) ≤ (c5 : Int) := by omega
      have z5 : k6 ≤ out.length := by omega
      have z6 : ¬ c5 = k6 := by omega
      go_upto_region 5 with fail
      go_region_held3 (fun w' => Ext w6 w')
        (first | exact (Ext.refl _).drew | exact Ext.refl _ | exact Ext.trans ‹Ext w6 _› hE8 | exact app_ext ‹Ext w6 _› hO8 (Nat.le_refl _) hg9)
        (first
          | (go_at_call 165; refine (HOw.out _ ‹Ext w6 _›).mono ?_; rintro e w8 ⟨a8, c8, rfl, hI8, hE8⟩; rw [hdl] at hI8; have hO8 := OwnI.mono (B' := w6.heap.size) hI8 (Ext.size ‹Ext w6 _›))
          | (refine step_app_is rfl _ _ rfl w6.heap.size _ _ rfl hO8 ⟨g, 0, none⟩ k6 c5 (out.take k6) htl rfl (HTk.out _ ‹Ext w6 _›) hsum (Ext.size ‹Ext w6 _›) ?_; intro v' w9 hO9 hg9; obtain ⟨a9, c9, rfl, hi9⟩ := hO9.at))
      all_goals
        have hEe : Ext w6 w9 := ‹Ext w6 w9›
        have hSe := hS6.ext hEe
        have hGe := grownBy_trans hG6 (grownBy_ext (some b) hEe)
        have hIe := hO9.mono hz6
        have hle9 : (out.drop k6 ++ out.take k6).length ≤ 101 := by rw [List.length_append, hdl, htl]; omega
        go_wp2
        go_ret
        have hlen9 : (out.drop k6 ++ out.take k6).length = out.length := by rw [List.length_append, hdl, htl]; omega
        exact ⟨a9, c9, out.drop k6 ++ out.take k6, by rw [hlen9]; rfl, hIe, hle9, hSe, hGe⟩
    · have hn' : out.length = 0 := by omega
      go_wp2_with fail
      refine (HDn.out _ hS5 hO5).mono ?_
      rintro e w6 ⟨v, c, xs, rfl, hI, hxl, hS6, hG6⟩
      have hI' := hI.mono hG5.size
      have hG := grownBy_trans hG5 hG6
      clear hI hG5 hG6 hO5 hS5 hI5'
      go_wp2
      go_ret
      exact ⟨v, c, xs, rfl, hI', hxl, hS6, hG⟩
  · have h0' : k2 = 0 := by omega
    subst h0'
    go_wp2_with fail
    refine (HDn.out _ hS2 hO2).mono ?_
    rintro e w6 ⟨v, c, xs, rfl, hI, hxl, hS6, hG6⟩
    have hI' := hI.mono hG2.size
    have hG := grownBy_trans hG2 hG6
    clear hI hG2 hG6 hO2 hS2
    go_wp2
    go_ret
    exact ⟨v, c, xs, rfl, hI', hxl, hS6, hG⟩
set_option maxHeartbeats 1000000 in
theorem DrawIsCycle_c (ca : Option Addr) (cc : Nat) (bs : List Int) (w : World) (h : CodeAt w ca bs) :
    Calls Try.prog 110 #[.slice ca bs.length cc] w (DrawnMi w) := by
  rw [show (DrawnMi w) = fun e w' => ∃ a cap M v cv xs, e = .returned (.tuple #[.slice a (M : List (List Int)).length cap, .slice v (xs : List Int).length cv]) ∧ OwnM w' w.heap.size (.slice a M.length cap) M ∧ M.length ≤ 100 ∧ OwnI w' w.heap.size (.slice v xs.length cv) xs ∧ xs.length ≤ 101 ∧ Ext w w' from rfl]
  go_enter Try.func110, Try.ntmps110
  go_wp2_with fail
  refine (l01From_c _ _ _ _ h h.new).mono ?_
  rintro e w1 ⟨b, rfl, hE1, hb, hS1⟩
  have hbw := hS1.lt
  go_wp2_with fail
  refine (l03Draw_c b _ hS1).mono ?_
  rintro e w2 ⟨a, cap, M, rfl, hO, hl, -, hS2, hG2⟩
  go_wp2_with fail
  refine (l03DrawCycle_c b _ a cap M _ hS2 hO hbw hl).mono ?_
  rintro e w3 ⟨v, cv, xs, rfl, hI, hxl, hS3, hG3⟩
  have hO3 := (hO.drawnB hbw hG3).mono hE1.size
  have hI3 := hI.mono (Nat.le_trans hE1.size hG2.size)
  have hE3 := (hE1.src hb hG2).src hb hG3
  clear hO hI
  go_wp2
  go_ret2
  exact ⟨a, cap, M, v, cv, xs, rfl, hO3, hl, hI3, hxl, hE3⟩
theorem DrawMeanOf_c (ca : Option Addr) (cc : Nat) (bs : List Int) (w : World) (h : CodeAt w ca bs) :
    Calls Try.prog 47 #[.slice ca bs.length cc] w (DrawnMi w) := by
  rw [show (DrawnMi w) = fun e w' => ∃ a cap M v cv xs, e = .returned (.tuple #[.slice a (M : List (List Int)).length cap, .slice v (xs : List Int).length cv]) ∧ OwnM w' w.heap.size (.slice a M.length cap) M ∧ M.length ≤ 100 ∧ OwnI w' w.heap.size (.slice v xs.length cv) xs ∧ xs.length ≤ 101 ∧ Ext w w' from rfl]
  go_enter Try.func47, Try.ntmps47
  go_wp2_with fail
  refine (DrawIsCycle_c _ _ _ _ h).mono ?_
  rintro e w2 ⟨a, cap, M, v, cv, xs, rfl, hO, hl, hI, hxl, hE⟩
  go_wp2
  go_ret2
  exact ⟨a, cap, M, v, cv, xs, rfl, hO, hl, hI, hxl, hE⟩
theorem DrawCycleMean_c (ca : Option Addr) (cc : Nat) (bs : List Int) (w : World) (h : CodeAt w ca bs) :
    Calls Try.prog 42 #[.slice ca bs.length cc] w (DrawnM w) := by
  rw [show (DrawnM w) = fun e w' => ∃ a cap M, e = .returned (.slice a (M : List (List Int)).length cap) ∧ OwnM w' w.heap.size (.slice a M.length cap) M ∧ M.length ≤ 100 ∧ (∀ i, i < M.length → (row M i).length ≤ 100) ∧ Ext w w' from rfl]
  go_enter Try.func42, Try.ntmps42
  go_wp2_with fail
  refine (l01From_c _ _ _ _ h h.new).mono ?_
  rintro e w1 ⟨b, rfl, hE1, hb, hS1⟩
  go_wp2_with fail
  refine (l04Draw_c b _ hS1).mono ?_
  rintro e w2 ⟨a, cap, M, rfl, hO, hl, hr, hS2, hG2⟩
  go_wp2
  go_ret
  exact ⟨a, cap, M, rfl, hO.mono hE1.size, hl, hr, hE1.src hb hG2⟩
end Go.Proofs.Ytokhkpbebimohaa
