/- Contracts of the draws of pairs of matrices, and of the laws' dice. Conditions: the code reads; the dice read. -/
import Derived.Test.YtokhkpbebimohaaD5
namespace Go.Proofs.Ytokhkpbebimohaa
set_option linter.unusedVariables false
set_option linter.unusedSimpArgs false
open Go.RowKit

/-- two drawn matrices -/
def DrawnMM (w : World) (e : Ending) (w' : World) : Prop := ∃ a ka M b kb N, e = .returned (.tuple #[.slice a (M : List (List Int)).length ka, .slice b (N : List (List Int)).length kb]) ∧ OwnM w' w.heap.size (.slice a M.length ka) M ∧ OwnM w' w.heap.size (.slice b N.length kb) N ∧ M.length ≤ 100 ∧ N.length ≤ 100 ∧
  (∀ i, i < M.length → (row M i).length ≤ 100) ∧ (∀ i, i < N.length → (row N i).length ≤ 100) ∧ Ext w w'
theorem drawn_mono {w w1 w2 : World} {b : Nat} {a : Option Addr} {cap : Nat} {M : List (List Int)} (hE : Ext w w1) (h : OwnM w2 w1.heap.size (.slice a M.length cap) M) : OwnM w2 w.heap.size (.slice a M.length cap) M := h.mono hE.size
theorem keepD {w0 w : World} {b : Nat} {p : Addr} {v : Value} (c : w0.cell? p = some v) (hne : p.block ≠ b) (h : w0.grownBy w (some b)) (hS : Src w b) : w0.grownBy w (some b) ∧ Src w b ∧ w.cell? p = some v := ⟨h, hS, h.cell c (by simpa using hne)⟩
/-- the laws' dice: block b holds the code, the place in it and the number -/
structure DiceX (w : World) (b : Nat) (ca : Option Addr) (cc : Nat) (bs : List Int) (t s : Int) : Prop where
  c0 : w.cell? ⟨b, 0, none⟩ = some (.slice ca bs.length cc)
  c1 : w.cell? ⟨b, 1, none⟩ = some (.int .i64 t)
  c2 : w.cell? ⟨b, 2, none⟩ = some (.int .u64 s)
  f1 : w.frozen? ⟨b, 1, none⟩ = false
  f2 : w.frozen? ⟨b, 2, none⟩ = false
  ht : 0 ≤ t ∧ t ≤ bs.length
  bytes : BytesAt w ca bs
  ne : bs ≠ [] → ∀ c o, ca = some ⟨c, o, none⟩ → c < b
def Dice (w : World) (b : Nat) : Prop := ∃ ca cc bs t s, DiceX w b ca cc bs t s
section
variable {w w' : World} {b : Nat} {ca : Option Addr} {cc : Nat} {bs : List Int} {t s : Int}
theorem DiceX.lt (h : DiceX w b ca cc bs t s) : b < w.heap.size := World.block_lt_of_cell? w ⟨b, 0, none⟩ h.c0
theorem Dice.lt (h : Dice w b) : b < w.heap.size := by obtain ⟨ca, cc, bs, t, s, hX⟩ := h; exact hX.lt
theorem DiceX.set (h : DiceX w b ca cc bs t s) (t' s' : Int) (ht : 0 ≤ t' ∧ t' ≤ bs.length) (h0 : w'.cell? ⟨b, 0, none⟩ = w.cell? ⟨b, 0, none⟩) (h1 : w'.cell? ⟨b, 1, none⟩ = some (.int .i64 t')) (h2 : w'.cell? ⟨b, 2, none⟩ = some (.int .u64 s'))
    (hf : ∀ a, w'.frozen? a = w.frozen? a) (ho : ∀ a : Addr, a.block ≠ b → w'.cell? a = w.cell? a) : DiceX w' b ca cc bs t' s' :=
  ⟨h0.trans h.c0, h1, h2, (hf _).trans h.f1, (hf _).trans h.f2, ht, h.bytes.of fun hn b' o v ha j hv => by
    rw [ho]; exact hv
    intro e; simp only at e; subst e; exact Nat.lt_irrefl _ (h.ne hn _ o ha), h.ne⟩
theorem DiceX.num (h : DiceX w b ca cc bs t s) (s' : Int) : DiceX (w.setCell ⟨b, 2, none⟩ (.int .u64 s')) b ca cc bs t s' := by
  have h0 := h.c0; have h1 := h.c1; have h2 := h.c2
  refine h.set t s' h.ht ?_ ?_ (World.cell?_setCell_same _ _ _ h2) (fun a => frozen_set _ _ _ _) (fun a ha => ?_)
  · exact World.cell?_setCell_other _ _ _ _ (by simp)
  · rw [World.cell?_setCell_other _ _ _ _ (by simp)]; exact h1
  · exact World.cell?_setCell_other _ _ _ _ (fun e => ha (by rw [← e]))
theorem DiceX.at (h : DiceX w b ca cc bs t s) (t' : Int) (ht : 0 ≤ t' ∧ t' ≤ bs.length) : DiceX (w.setCell ⟨b, 1, none⟩ (.int .i64 t')) b ca cc bs t' s := by
  have h0 := h.c0; have h1 := h.c1; have h2 := h.c2
  refine h.set t' s ht ?_ (World.cell?_setCell_same _ _ _ h1) ?_ (fun a => frozen_set _ _ _ _) (fun a ha => ?_)
  · exact World.cell?_setCell_other _ _ _ _ (by simp)
  · rw [World.cell?_setCell_other _ _ _ _ (by simp)]; exact h2
  · exact World.cell?_setCell_other _ _ _ _ (fun e => ha (by rw [← e]))
theorem DiceX.ext (h : DiceX w b ca cc bs t s) (e : Ext w w') : DiceX w' b ca cc bs t s :=
  ⟨e.cell h.c0, e.cell h.c1, e.cell h.c2, by rw [e.frozen (a := ⟨b, 1, none⟩) h.lt]; exact h.f1, by rw [e.frozen (a := ⟨b, 2, none⟩) h.lt]; exact h.f2, h.ht, h.bytes.mono e, h.ne⟩
theorem DiceX.qt (h : DiceX w b ca cc bs t s) (q : Qt w w') : DiceX w' b ca cc bs t s := h.ext q.ext
theorem Dice.ext (h : Dice w b) (e : Ext w w') : Dice w' b := by obtain ⟨ca, cc, bs, t, s, hX⟩ := h; exact ⟨ca, cc, bs, t, s, hX.ext e⟩
theorem Dice.row {r : Option Nat} (h : Dice w b) (g : w.grownBy w' r) (hr : ∀ k, r = some k → b < k) : Dice w' b := by
  obtain ⟨ca, cc, bs, t, s, hX⟩ := h
  have hlt := hX.lt
  have hb : ∀ i, w'.cell? ⟨b, i, none⟩ = w.cell? ⟨b, i, none⟩ := fun i => g.cell_far _ hlt (fun e => by have := hr b e.symm; omega)
  have hf : ∀ i, w'.frozen? ⟨b, i, none⟩ = w.frozen? ⟨b, i, none⟩ := fun i => g.frozen_far _ hlt (fun e => by have := hr b e.symm; omega)
  exact ⟨ca, cc, bs, t, s, (hb 0).trans hX.c0, (hb 1).trans hX.c1, (hb 2).trans hX.c2, (hf 1).trans hX.f1, (hf 2).trans hX.f2, hX.ht, hX.bytes.of fun hn b' o v ha j hv => by
    have hlt2 := hX.ne hn b' o ha
    rw [g.cell_far ⟨b', o + j, none⟩ (Nat.lt_trans hlt2 hlt) (fun e => by have := hr b' e.symm; omega)]; exact hv, hX.ne⟩
end
theorem tmod_bd (x : Int) {n : Int} (h : 1 ≤ n) : -n < x.tmod n ∧ x.tmod n < n := by
  have h1 : (x.tmod n).natAbs = x.natAbs % n.natAbs := Int.natAbs_tmod x n
  have h2 : x.natAbs % n.natAbs < n.natAbs := Nat.mod_lt _ (by omega)
  omega
set_option maxRecDepth 100000 in
set_option maxHeartbeats 1000000 in
theorem below_c (b : Nat) (n : Int) (w : World) (h : Dice w b) (hn1 : 1 ≤ n) (hn2 : n ≤ 1000000) :
    Calls Try.prog 28 #[.pointer (some ⟨b, 0, none⟩), .int .i64 n] w fun e w' => ∃ x, e = .returned (.int .i64 x) ∧ (-n < x ∧ x < n) ∧ Dice w' b ∧ w.grownBy w' (some b) := by
  obtain ⟨ca, cc, bs, t, s, hX⟩ := h
  obtain ⟨s', hs'⟩ : ∃ s', IntKind.u64.wrap (IntKind.u64.wrap (s * 6364136223846793005) + 1442695040888963407) = s' := ⟨_, rfl⟩
  have c2 := hX.c2
  have f2 := hX.f2
  have hX1 := hX.num s'
  have hg1 := grownBy_set w b 2 (.int .u64 s')
  obtain ⟨W1, hW1⟩ : ∃ W, w.setCell ⟨b, 2, none⟩ (.int .u64 s') = W := ⟨_, rfl⟩
  rw [hW1] at hX1 hg1
  have d0 := hX1.c0
  have d1 := hX1.c1
  have d2 := hX1.c2
  have hbl := hX1.bytes.1
  have ht := hX1.ht
  obtain ⟨ht0, ht1⟩ := ht
  have hn0 : (n == 0) = false := by rw [beq_eq_false_iff_ne]; omega
  have Hs := Lib.hid hs'
  clear hX
  by_cases hlt : t < (bs.length : Int)
  · obtain ⟨k, rfl⟩ := Int.eq_ofNat_of_zero_le ht0
    have hk : k < bs.length := by omega
    obtain ⟨b2, o2, rfl, hc⟩ := hX1.bytes.at hk
    have y1 := hc k hk
    obtain ⟨y, hy⟩ : ∃ y, nth bs k = y := ⟨_, rfl⟩
    rw [hy] at y1
    clear hc hy
    go_enter Try.func28, Try.ntmps28
    go_wp2_with fail
    clear hs' c2 f2 hW1 Hs d2
    go_big_quiet (fail)
    have hX2 := hX1.qt ((Qt.refl W1).drewN nq)
    have hg2 := grownBy_qt hg1 ((Qt.refl W1).drewN nq)
    have z1 : (W1.drewN nq).cell? ⟨b2, o2 + k, none⟩ = some (.int .u8 y) := y1
    generalize W1.drewN nq = W2 at *
    clear d0 d1 y1 hX1 hg1
    have d0 := hX2.c0
    have d1 := hX2.c1
    go_wp2_with fail
    go_big_quiet (fail)
    have hX3 := hX2.qt ((Qt.refl W2).drewN nq)
    have hg3 := grownBy_qt hg2 ((Qt.refl W2).drewN nq)
    generalize W2.drewN nq = W3 at *
    clear d0 d1 z1 hX2 hg2
    have d1 := hX3.c1
    have f1 := hX3.f1
    have hX4 := hX3.at ((k : Int) + 1) (by omega)
    have hg4 := grownBy_trans hg3 (grownBy_set W3 b 1 (.int .i64 ((k : Int) + 1)))
    go_wp2_with fail
    go_ret
    exact ⟨_, rfl, tmod_bd _ hn1, ⟨_, _, _, _, _, hX4⟩, hg4⟩
  · have et : t = bs.length := by omega
    clear hlt
    go_enter Try.func28, Try.ntmps28
    go_wp2_with fail
    clear hs' c2 f2 hW1 Hs d2
    go_big_quiet (fail)
    have hX2 := hX1.qt ((Qt.refl W1).drewN nq)
    have hg2 := grownBy_qt hg1 ((Qt.refl W1).drewN nq)
    go_wp2_with fail
    go_ret
    exact ⟨_, rfl, tmod_bd _ hn1, ⟨_, _, _, _, _, hX2⟩, hg2⟩
set_option maxHeartbeats 1000000 in
theorem roll_c (ca : Option Addr) (cc : Nat) (bs : List Int) (seed : Int) (w : World) (h : CodeAt w ca bs) :
    Calls Try.prog 27 #[.slice ca bs.length cc, .int .u64 seed] w (fun e w' => ∃ b, e = .returned (.pointer (some ⟨b, 0, none⟩)) ∧ Ext w w' ∧ w.heap.size ≤ b ∧ Dice w' b) := by
  have hlen := h.1
  have hO := h.new
  go_enter Try.func27, Try.ntmps27
  go_wp2_with fail
  go_loopw [6] (fun i wr => ∃ (k : Nat) (s : Int), k ≤ bs.length ∧ i = .int .i64 k ∧ Ext w wr ∧ DiceX wr w.heap.size ca cc bs 0 s) (fun i _ => bs.length - (intOf i).toNat)
  case atStart =>
    refine ⟨0, IntKind.u64.wrap (IntKind.u64.wrap (seed * 9103) + (bs.length : Int)), Nat.zero_le _, rfl, (Ext.refl w).alloc _, ?_, ?_, ?_, ?_, ?_, ⟨by omega, by omega⟩, h.mono ((Ext.refl w).alloc _), hO⟩
    all_goals simp
  case round =>
    obtain ⟨k, s, hk, rfl, hE, hX⟩ := hrel
    have c2 := hX.c2
    have f2 := hX.f2
    by_cases hlt : (k : Int) < bs.length
    · obtain ⟨b2, o2, rfl, hc⟩ := h.at (i := k) (by omega)
      have y0 := hE.cell (hc k (by omega))
      generalize nth bs k = y at *
      clear hc
      go_wp2_with fail
      refine region_qt_lit 15 (by kernel_rfl) (by kernel_rfl) ?_
      simp only [List.take_succ_cons, List.take_zero, List.drop_succ_cons, List.drop_zero]
      repeat (go_big_quiet_step ((fail)))
      refine wpQuiet_nil ?_
      intro _ hw'
      obtain ⟨nq, hw''⟩ := hw'
      subst hw''
      go_wp2
      go_roundw
      case rel =>
        refine ⟨k + 1, _, by omega, by go_num, ?_, (hX.qt ((Qt.refl wr).drewN nq)).num _⟩
        repeat (first | exact hE | refine Ext.drewN ?_ _ | refine Ext.drew ?_ | refine Ext.set ?_ (Nat.le_refl _) _)
      case measure => simp [intOf]; omega
    · go_wp2_with fail
      go_ret
      exact ⟨_, rfl, hE, Nat.le_refl _, ⟨_, _, _, _, _, hX⟩⟩
end Go.Proofs.Ytokhkpbebimohaa
