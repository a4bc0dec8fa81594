/- The source of drawn numbers: what it is in memory; its functions return, within bounds. Conditions: the bounds that each states. -/
import Derived.Test.YtkipbfjkcdccjaaGreatDoorGB
import Derived.Test.YtkipbfjkcdccjaaGreatDoorGS
import Derived.Test.YtkipbfjkcdccjaaGreatDoorGS
namespace Go.Proofs.YtkipbfjkcdccjaaGreatDoor
set_option linter.unusedVariables false
open Go.RowKit

/-- the cells of a slice of bytes that is read -/
def BytesAt (w : World) (a : Option Addr) (xs : List Int) : Prop :=
  xs.length ≤ 9223372036854775807 ∧ (∀ i, i < xs.length → 0 ≤ nth xs i ∧ nth xs i ≤ 255) ∧ (xs ≠ [] → ∃ b o, a = some ⟨b, o, none⟩ ∧ ∀ i, i < xs.length → w.cell? ⟨b, o + i, none⟩ = some (.int .u8 (nth xs i)))
theorem BytesAt.at {w : World} {a : Option Addr} {xs : List Int} (h : BytesAt w a xs) {i : Nat} (hi : i < xs.length) :
    ∃ b o, a = some ⟨b, o, none⟩ ∧ ∀ i, i < xs.length → w.cell? ⟨b, o + i, none⟩ = some (.int .u8 (nth xs i)) := by
  refine h.2.2 ?_; rintro rfl; simp at hi
theorem BytesAt.nil (w : World) (a : Option Addr) : BytesAt w a [] := ⟨by simp, fun i hi => absurd hi (Nat.not_lt_zero _), fun h => absurd rfl h⟩
theorem BytesAt.of {w w' : World} {a : Option Addr} {xs : List Int} (h : BytesAt w a xs) (e : xs ≠ [] → ∀ b o v, a = some ⟨b, o, none⟩ → ∀ j, w.cell? ⟨b, o + j, none⟩ = some v → w'.cell? ⟨b, o + j, none⟩ = some v) : BytesAt w' a xs :=
  ⟨h.1, h.2.1, fun hn => by obtain ⟨b, o, ha, hc⟩ := h.2.2 hn; exact ⟨b, o, ha, fun i hi => e hn b o _ ha i (hc i hi)⟩⟩
theorem BytesAt.mono {w w' : World} {a : Option Addr} {xs : List Int} (h : BytesAt w a xs) (e : Ext w w') : BytesAt w' a xs := h.of fun _ b o v ha j hv => e.cell hv

theorem u8_bd {a : Int} (h : (Lit.int .u8 a).wf = true) : 0 ≤ a ∧ a ≤ 255 := by
  simp [Lit.wf, IntKind.min, IntKind.max, IntKind.signed, IntKind.bits] at h; omega
theorem bytes_of_row {w : World} {x : Addr} {len cap : Nat} {zs : List Int} (hl : len ≤ cap) (hm : cap ≤ maxLen) (hz : zs.length = cap)
    (hcell : ∀ i, i < zs.length → w.cell? (x.add i) = some (.int .u8 (zs.getD i 0))) (hwz : ∀ n ∈ zs, (Lit.int .u8 n).wf = true) :
    ∃ xs : List Int, xs.length = len ∧ BytesAt w (some x) xs := by
  have hnth : ∀ i, i < len → nth (zs.take len) i = zs.getD i 0 := fun i hi => by
    simp [nth, hi]
  refine ⟨zs.take len, by simp; omega, ⟨?_, fun i hi => ?_, fun hne => ?_⟩⟩
  · have : maxLen = 9223372036854775807 := rfl
    simp; omega
  · have hi' : i < len := by simp at hi; omega
    rw [hnth i hi']
    have hlt : i < zs.length := by omega
    have : zs.getD i 0 ∈ zs := by simp [hlt]
    exact u8_bd (hwz _ this)
  · have h0 : 0 < len := by
      rcases Nat.eq_zero_or_pos len with h | h
      · subst h; simp at hne
      · exact h
    obtain ⟨b, o, sp⟩ := x
    have hsp : sp = none := by
      have := hcell 0 (by omega)
      cases sp with
      | none => rfl
      | some z => exfalso; simp [World.cell?, Addr.add] at this; split at this <;> simp_all
    subst hsp
    refine ⟨b, o, rfl, fun i hi => ?_⟩
    have hi' : i < len := by simp at hi; omega
    rw [hnth i hi']
    have h := hcell i (by omega)
    rw [Addr.add_lit] at h
    exact h

/-- a source: block b holds the code, the place in it and the seed -/
structure SrcX (w : World) (b : Nat) (ca : Option Addr) (cc : Nat) (bs : List Int) (t s : Int) : Prop where
  c0 : w.cell? ⟨b, 0, none⟩ = some (.slice ca bs.length cc)
  c1 : w.cell? ⟨b, 1, none⟩ = some (.int .i64 t)
  c2 : w.cell? ⟨b, 2, none⟩ = some (.int .i64 s)
  f1 : w.frozen? ⟨b, 1, none⟩ = false
  f2 : w.frozen? ⟨b, 2, none⟩ = false
  ht : 0 ≤ t ∧ t ≤ bs.length
  hs : 0 ≤ s ∧ s < 2147483647
  bytes : BytesAt w ca bs
  ne : bs ≠ [] → ∀ c o, ca = some ⟨c, o, none⟩ → c < b
def Src (w : World) (b : Nat) : Prop := ∃ ca cc bs t s, SrcX w b ca cc bs t s

section
variable {w w' : World} {b : Nat} {ca : Option Addr} {cc : Nat} {bs : List Int} {t s : Int}
theorem SrcX.lt (h : SrcX w b ca cc bs t s) : b < w.heap.size := World.block_lt_of_cell? w ⟨b, 0, none⟩ h.c0
theorem SrcX.set (h : SrcX w b ca cc bs t s) (t' s' : Int) (ht : 0 ≤ t' ∧ t' ≤ bs.length) (hs : 0 ≤ s' ∧ s' < 2147483647) (h0 : w'.cell? ⟨b, 0, none⟩ = w.cell? ⟨b, 0, none⟩) (h1 : w'.cell? ⟨b, 1, none⟩ = some (.int .i64 t')) (h2 : w'.cell? ⟨b, 2, none⟩ = some (.int .i64 s'))
    (hf : ∀ a, w'.frozen? a = w.frozen? a) (ho : ∀ a : Addr, a.block ≠ b → w'.cell? a = w.cell? a) : SrcX w' b ca cc bs t' s' :=
  ⟨h0.trans h.c0, h1, h2, (hf _).trans h.f1, (hf _).trans h.f2, ht, hs, h.bytes.of fun hn b' o v ha j hv => by
    rw [ho]; exact hv
    intro e; simp only at e; subst e; exact Nat.lt_irrefl _ (h.ne hn _ o ha), h.ne⟩
theorem frozen_set (w : World) (a : Addr) (v : Value) (x : Addr) : (w.setCell a v).frozen? x = w.frozen? x := by simp
theorem SrcX.seed (h : SrcX w b ca cc bs t s) (s' : Int) (hs : 0 ≤ s' ∧ s' < 2147483647) : SrcX (w.setCell ⟨b, 2, none⟩ (.int .i64 s')) b ca cc bs t s' := by
  have h0 := h.c0; have h1 := h.c1; have h2 := h.c2
  refine h.set t s' h.ht hs ?_ ?_ (World.cell?_setCell_same _ _ _ h2) (fun a => frozen_set _ _ _ _) (fun a ha => ?_)
  · exact World.cell?_setCell_other _ _ _ _ (by simp)
  · rw [World.cell?_setCell_other _ _ _ _ (by simp)]; exact h1
  · exact World.cell?_setCell_other _ _ _ _ (fun e => ha (by rw [← e]))
theorem SrcX.at (h : SrcX w b ca cc bs t s) (t' : Int) (ht : 0 ≤ t' ∧ t' ≤ bs.length) : SrcX (w.setCell ⟨b, 1, none⟩ (.int .i64 t')) b ca cc bs t' s := by
  have h0 := h.c0; have h1 := h.c1; have h2 := h.c2
  refine h.set t' s ht h.hs ?_ (World.cell?_setCell_same _ _ _ h1) ?_ (fun a => frozen_set _ _ _ _) (fun a ha => ?_)
  · exact World.cell?_setCell_other _ _ _ _ (by simp)
  · rw [World.cell?_setCell_other _ _ _ _ (by simp)]; exact h2
  · exact World.cell?_setCell_other _ _ _ _ (fun e => ha (by rw [← e]))
theorem SrcX.qt (h : SrcX w b ca cc bs t s) (q : Qt w w') : SrcX w' b ca cc bs t s := by obtain ⟨n, rfl⟩ := q; exact ⟨h.c0, h.c1, h.c2, h.f1, h.f2, h.ht, h.hs, h.bytes.mono (Qt.ext ⟨n, rfl⟩), h.ne⟩
theorem SrcX.ext (h : SrcX w b ca cc bs t s) (e : Ext w w') : SrcX w' b ca cc bs t s :=
  ⟨e.cell h.c0, e.cell h.c1, e.cell h.c2, by rw [e.frozen (a := ⟨b, 1, none⟩) h.lt]; exact h.f1, by rw [e.frozen (a := ⟨b, 2, none⟩) h.lt]; exact h.f2, h.ht, h.hs, h.bytes.mono e, h.ne⟩
theorem Src.ext (h : Src w b) (e : Ext w w') : Src w' b := by obtain ⟨ca, cc, bs, t, s, h⟩ := h; exact ⟨ca, cc, bs, t, s, h.ext e⟩
/-- only block b may have changed -/
theorem grownBy_set (w : World) (b j : Nat) (v : Value) : w.grownBy (w.setCell ⟨b, j, none⟩ v) (some b) := ⟨rfl, rfl, rfl, by simp, fun k hk hn => Below.heap_setCell _ _ _ _ (fun e => hn (by rw [e]))⟩
theorem grownBy_trans {a b c : World} {r : Option Nat} (h : a.grownBy b r) (k : b.grownBy c r) : a.grownBy c r :=
  ⟨k.os.trans h.os, k.tape.trans h.tape, k.output.trans h.output, Nat.le_trans h.size k.size, fun i hi hn => (k.block i (Nat.lt_of_lt_of_le hi h.size) hn).trans (h.block i hi hn)⟩
theorem grownBy_qt {a b c : World} {r : Option Nat} (h : a.grownBy b r) (q : Qt b c) : a.grownBy c r := by obtain ⟨n, rfl⟩ := q; exact ⟨h.os, h.tape, h.output, h.size, h.block⟩
theorem grownBy_ext {a b : World} (r : Option Nat) (e : Ext a b) : a.grownBy b r := ⟨Below.os e, Below.tape e, Below.output e, e.size, fun k hk _ => Below.block e k hk⟩
end

/-- a drawn number: within P; the source goes on -/
def Dr (P : Int → Prop) (b : Nat) (w : World) (e : Ending) (w' : World) : Prop := ∃ x, e = .returned (.int .i64 x) ∧ P x ∧ Src w' b ∧ w.grownBy w' (some b)
def NextP (n x : Int) : Prop := 0 ≤ x ∧ (n ≤ 1 → x = 0) ∧ (1 < n → x < n)

set_option maxHeartbeats 1000000 in
theorem l01Next_c (b : Nat) (n : Int) (w : World) (h : Src w b) (hn1 : -4000000000000000000 ≤ n) (hn2 : n ≤ 4000000000000000000) :
    Calls Tryz.prog 18 #[.pointer (some ⟨b, 0, none⟩), .int .i64 n] w (Dr (NextP n) b w) := by
  by_cases h1 : n ≤ 1
  · have hP : NextP n 0 := ⟨Int.le_refl _, fun _ => rfl, fun h => by omega⟩
    have HP := Lib.hid hP
    clear hP
    go_enter Tryz.func18, Tryz.ntmps18
    go_wp2
    go_ret
    exact ⟨0, rfl, HP.out, h, World.grownBy.refl' _ _⟩
  · obtain ⟨ca, cc, bs, t, s, hX⟩ := h
    have hs := hX.hs
    obtain ⟨s', hs'⟩ : ∃ s', (s * 48271 + 59) % 2147483647 = s' := ⟨_, rfl⟩
    have hs1 : 0 ≤ s' := by rw [← hs']; exact Int.emod_nonneg _ (by omega)
    have hs2 : s' < 2147483647 := by rw [← hs']; exact Int.emod_lt_of_pos _ (by omega)
    have c2 := hX.c2
    have f2 := hX.f2
    have hX1 := hX.seed s' ⟨hs1, hs2⟩
    have hg1 := grownBy_set w b 2 (.int .i64 s')
    obtain ⟨W1, hW1⟩ : ∃ W, w.setCell ⟨b, 2, none⟩ (.int .i64 s') = W := ⟨_, rfl⟩
    rw [hW1] at hX1 hg1
    have d0 := hX1.c0
    have d1 := hX1.c1
    have d2 := hX1.c2
    have g1 := hX1.f1
    have hb0 := hX1.bytes.1
    have ht := hX1.ht
    obtain ⟨ht0, ht1⟩ := ht
    obtain ⟨hs3, hs4⟩ := hs
    have hx0 : 0 ≤ s' / 31 := by omega
    have hx1 : s' / 31 ≤ 100000000 := by omega
    have Hs := Lib.hid hs'
    by_cases hlt : t < (bs.length : Int)
    · obtain ⟨k, rfl⟩ := Int.eq_ofNat_of_zero_le ht0
      have hk : k < bs.length := by omega
      obtain ⟨b2, o2, rfl, hc⟩ := hX1.bytes.at hk
      have y1 := hc k hk
      have yb := hX1.bytes.2.1 k hk
      obtain ⟨yb0, yb1⟩ := yb
      obtain ⟨y, hy⟩ : ∃ y, nth bs k = y := ⟨_, rfl⟩
      rw [hy] at y1 yb0 yb1
      clear hc hy
      go_enter Tryz.func18, Tryz.ntmps18
      go_wp2_with fail
      clear hs' c2 f2 hW1 Hs
      go_big_quiet (fail)
      have hX2 := hX1.qt ((Qt.refl W1).drewN nq)
      have hg2 := grownBy_qt hg1 ((Qt.refl W1).drewN nq)
      have z1 : (W1.drewN nq).cell? ⟨b2, o2 + k, none⟩ = some (.int .u8 y) := y1
      generalize W1.drewN nq = W2 at *
      clear d0 d1 d2 g1 y1 hX1 hg1
      have d0 := hX2.c0
      have d1 := hX2.c1
      go_wp2_with fail
      go_big_quiet (fail)
      have hX3 := hX2.qt ((Qt.refl W2).drewN nq)
      have hg3 := grownBy_qt hg2 ((Qt.refl W2).drewN nq)
      have z2 : (W2.drewN nq).cell? ⟨b2, o2 + k, none⟩ = some (.int .u8 y) := z1
      generalize W2.drewN nq = W3 at *
      clear d0 d1 z1 hX2 hg2
      have d1 := hX3.c1
      have f1 := hX3.f1
      have hX4 := hX3.at ((k : Int) + 1) (by omega)
      have hg4 := grownBy_trans hg3 (grownBy_set W3 b 1 (.int .i64 ((k : Int) + 1)))
      have hbk : b2 ≠ b := Nat.ne_of_lt (hX3.ne (by rintro rfl; simp at hk) b2 o2 rfl)
      have z3 : (W3.setCell ⟨b, 1, none⟩ (.int .i64 ((k : Int) + 1))).cell? ⟨b2, o2 + k, none⟩ = some (.int .u8 y) := by
        rw [World.cell?_setCell_other _ _ _ _ (fun e => hbk (by have := congrArg Addr.block e; simpa using this.symm))]; exact z2
      obtain ⟨W4, hW4⟩ : ∃ W, W3.setCell ⟨b, 1, none⟩ (.int .i64 ((k : Int) + 1)) = W := ⟨_, rfl⟩
      rw [hW4] at hX4 hg4 z3
      clear z2 hX3 hg3 hbk
      have e0 := hX4.c0
      have e1 := hX4.c1
      have hy2 : 0 ≤ s' / 31 + y := by omega
      by_cases h256 : n ≤ 256
      · by_cases hm : ((k : Int) + 1) % 2 = 0
        · have hm' : (((k : Int) + 1) % 2 == 0) = true := by simpa using hm
          clear hm
          go_wp2_with fail
          clear hW4 d1 f1
          go_big_quiet (fail)
          go_wp2
          go_ret
          exact ⟨_, rfl, ⟨Int.emod_nonneg _ (by omega), fun h => by omega, fun _ => Int.emod_lt_of_pos _ (by omega)⟩, ⟨_, _, _, _, _, hX4.qt ((Qt.refl W4).drewN nq)⟩, grownBy_qt hg4 ((Qt.refl W4).drewN nq)⟩
        · have hm' : (((k : Int) + 1) % 2 == 0) = false := by simpa using hm
          clear hm
          go_wp2
          go_ret
          exact ⟨_, rfl, ⟨Int.emod_nonneg _ (by omega), fun h => by omega, fun _ => Int.emod_lt_of_pos _ (by omega)⟩, ⟨_, _, _, _, _, hX4⟩, hg4⟩
      · go_wp2
        go_ret
        exact ⟨_, rfl, ⟨Int.emod_nonneg _ (by omega), fun h => by omega, fun _ => Int.emod_lt_of_pos _ (by omega)⟩, ⟨_, _, _, _, _, hX4⟩, hg4⟩
    · go_enter Tryz.func18, Tryz.ntmps18
      go_wp2_with fail
      clear hs' c2 f2 hW1 Hs
      go_big_quiet (fail)
      go_wp2
      go_ret
      exact ⟨_, rfl, ⟨Int.emod_nonneg _ (by omega), fun h => by omega, fun _ => Int.emod_lt_of_pos _ (by omega)⟩, ⟨_, _, _, _, _, hX1.qt ((Qt.refl W1).drewN nq)⟩, grownBy_qt hg1 ((Qt.refl W1).drewN nq)⟩

/-- fits an int64 -/
def I64 (x : Int) : Prop := -9223372036854775808 ≤ x ∧ x ≤ 9223372036854775807
theorem ints_lit (w : World) (xs : List Int) (hl : xs.length ≤ 1000) : IntsAt (w.alloc (.cells (xs.map (Value.int .i64)).toArray 2)) (some ⟨w.heap.size, 0, none⟩) xs :=
  ⟨by omega, fun _ => ⟨w.heap.size, 0, rfl, fun i hi => by
    rw [Nat.zero_add, World.cell?_alloc_new]
    simp [hi, nth]⟩⟩

theorem lits_I64 {x : Int} (h : ∃ i, i < [(1000000 : Int), 1000001, -1000000, -1000001, -999999999999999, -1000000000000001, 9223372036854775807].length ∧ x = nth [(1000000 : Int), 1000001, -1000000, -1000001, -999999999999999, -1000000000000001, 9223372036854775807] i) : I64 x := by
  obtain ⟨i, hi, rfl⟩ := h
  have : i = 0 ∨ i = 1 ∨ i = 2 ∨ i = 3 ∨ i = 4 ∨ i = 5 ∨ i = 6 := by simp at hi; omega
  rcases this with rfl | rfl | rfl | rfl | rfl | rfl | rfl <;> exact ⟨by decide, by decide⟩

set_option maxHeartbeats 400000 in
theorem l01Pick_c (b : Nat) (a : Option Addr) (cap : Nat) (xs : List Int) (w : World) (h : Src w b) (hx : IntsAt w a xs) (h0 : 0 < xs.length) (hl : xs.length ≤ 1000) (hne : ∀ o, a ≠ some ⟨b, o, none⟩) :
    Calls Tryz.prog 38 #[.pointer (some ⟨b, 0, none⟩), .slice a xs.length cap] w (Dr (fun x => ∃ i, i < xs.length ∧ x = nth xs i) b w) := by
  obtain ⟨c, o, rfl, hc⟩ := hx.at h0
  have hcb : c ≠ b := fun e => hne o (by rw [e])
  go_enter Tryz.func38, Tryz.ntmps38
  go_wp2_with fail
  refine (l01Next_c b _ _ h (by omega) (by omega)).mono ?_
  rintro e w2 ⟨x, rfl, hP, hS, hG⟩
  obtain ⟨hp1, hp2, hp3⟩ := hP
  obtain ⟨k, rfl⟩ := Int.eq_ofNat_of_zero_le hp1
  have hk : k < xs.length := by
    by_cases h1 : (xs.length : Int) ≤ 1
    · have := hp2 h1; omega
    · have := hp3 (by omega); omega
  have d1 : w2.cell? ⟨c, o + k, none⟩ = some (.int .i64 (nth xs k)) := hG.cell (hc k hk) (by simpa using hcb)
  clear hc hp1 hp2 hp3
  go_wp2
  go_ret
  exact ⟨_, rfl, ⟨k, hk, rfl⟩, hS, hG⟩

set_option maxHeartbeats 1000000 in
theorem l01DrawValue_c (b : Nat) (w : World) (h : Src w b) :
    Calls Tryz.prog 39 #[.pointer (some ⟨b, 0, none⟩)] w (Dr I64 b w) := by
  go_enter Tryz.func39, Tryz.ntmps39
  go_wp2_with fail
  refine (l01Next_c b _ _ h (by omega) (by omega)).mono ?_
  rintro e w2 ⟨y, rfl, hP, hS, hG⟩
  have hB : b < w2.heap.size := by obtain ⟨ca, cc, bs, t, s, hX⟩ := hS; exact hX.lt
  have hI := ints_lit w2 [1000000, 1000001, -1000000, -1000001, -999999999999999, -1000000000000001, 9223372036854775807] (by decide)
  have hS2 : Src (w2.alloc (.cells #[.int .i64 1000000, .int .i64 1000001, .int .i64 (-1000000), .int .i64 (-1000001), .int .i64 (-999999999999999), .int .i64 (-1000000000000001), .int .i64 9223372036854775807] 2)) b := hS.ext ((Ext.refl w2).alloc _)
  have HI := Lib.hid hI
  clear hI
  obtain ⟨hp1, hp2, hp3⟩ := hP
  have hy := hp3 (by decide)
  have hne : ∀ o, (some ⟨w2.heap.size, 0, none⟩ : Option Addr) ≠ some ⟨b, o, none⟩ := fun o e => by
    have := congrArg (fun z => (z.map (·.block)).getD 0) e
    simp at this; omega
  have HN := Lib.hid hne
  clear hne
  go_wp2_with (first
    | (go_at_call 38; refine (l01Pick_c b _ _ [1000000, 1000001, -1000000, -1000001, -999999999999999, -1000000000000001, 9223372036854775807] _ hS2 HI.out (by decide) (by decide) HN.out).mono ?_; rintro e w3 ⟨x, rfl, hx, hS3, hG3⟩)
    | (go_at_call 18; refine (l01Next_c b _ _ hS (by omega) (by omega)).mono ?_; rintro e w3 ⟨x, rfl, ⟨hx1, hx2, hx3⟩, hS3, hG3⟩; have hx4 := hx3 (by decide); clear hx2 hx3))
  all_goals first
    | (go_ret; exact ⟨_, rfl, ⟨by omega, by omega⟩, hS, hG⟩)
    | (go_ret; exact ⟨_, rfl, ⟨by omega, by omega⟩, hS3, grownBy_trans hG hG3⟩)
    | (go_ret; exact ⟨_, rfl, lits_I64 hx, hS3, grownBy_trans (grownBy_trans hG (grownBy_ext _ ((Ext.refl w2).alloc _))) hG3⟩)

set_option maxHeartbeats 1000000 in
/-- the source begins: a new block; nothing else changes -/
theorem l01From_c (ca : Option Addr) (cc : Nat) (bs : List Int) (w : World) (h : BytesAt w ca bs) (hO : bs ≠ [] → ∀ c o, ca = some ⟨c, o, none⟩ → c < w.heap.size) :
    Calls Tryz.prog 13 #[.slice ca bs.length cc] w (fun e w' => ∃ b, e = .returned (.pointer (some ⟨b, 0, none⟩)) ∧ Ext w w' ∧ w.heap.size ≤ b ∧ Src w' b) := by
  have hlen := h.1
  go_enter Tryz.func13, Tryz.ntmps13
  go_wp2_with fail
  go_loopw [4] (fun i wr => ∃ (k : Nat) (s : Int), k ≤ bs.length ∧ i = .int .i64 k ∧ Ext w wr ∧ SrcX wr w.heap.size ca cc bs 0 s) (fun i _ => bs.length - (intOf i).toNat)
  case atStart => 
    refine ⟨0, 61403, Nat.zero_le _, rfl, (Ext.refl w).alloc _, ?_, ?_, ?_, ?_, ?_, ⟨by omega, by omega⟩, ⟨by omega, by omega⟩, h.mono ((Ext.refl w).alloc _), hO⟩
    all_goals simp
  case round =>
    obtain ⟨k, s, hk, rfl, hE, hX⟩ := hrel
    have c2 := hX.c2
    have f2 := hX.f2
    obtain ⟨hs1, hs2⟩ := hX.hs
    by_cases hlt : (k : Int) < bs.length
    · by_cases h64 : (k : Int) < 64
      · obtain ⟨b2, o2, rfl, hc⟩ := h.at (i := k) (by omega)
        have y0 := hE.cell (hc k (by omega))
        have yb := h.2.1 k (by omega)
        obtain ⟨yb0, yb1⟩ := yb
        generalize nth bs k = y at *
        clear hc
        obtain ⟨s', hs'⟩ : ∃ s', (s * 67 + y) % 2147483647 = s' := ⟨_, rfl⟩
        have hs3 : 0 ≤ s' := by rw [← hs']; exact Int.emod_nonneg _ (by omega)
        have hs4 : s' < 2147483647 := by rw [← hs']; exact Int.emod_lt_of_pos _ (by omega)
        go_wp2_with fail
        refine region_qt_lit 15 (by kernel_rfl) (by kernel_rfl) ?_
        simp only [List.take_succ_cons, List.take_zero, List.drop_succ_cons, List.drop_zero]
        repeat (go_big_quiet_step ((fail)))
        refine wpQuiet_nil ?_
        intro _ hw'
        obtain ⟨nq, hw''⟩ := hw'
        subst hw''
        go_wp2
        go_roundw
        case rel =>
          refine ⟨k + 1, s', by omega, by go_num, ?_, ?_⟩
          · repeat (first | exact hE | refine Ext.drewN ?_ _ | refine Ext.drew ?_ | refine Ext.set ?_ (Nat.le_refl _) _)
          · exact (hX.qt ((Qt.refl wr).drewN nq)).seed s' ⟨hs3, hs4⟩
        case measure => simp [intOf]; omega
      · go_wp2_with fail
        go_ret
        exact ⟨_, rfl, hE, Nat.le_refl _, ⟨_, _, _, _, _, hX⟩⟩
    · go_wp2_with fail
      go_ret
      exact ⟨_, rfl, hE, Nat.le_refl _, ⟨_, _, _, _, _, hX⟩⟩

theorem Ext.src {w w1 w2 : World} {b : Nat} (h : Ext w w1) (hb : w.heap.size ≤ b) (g : w1.grownBy w2 (some b)) : Ext w w2 :=
  Below.grown h g h.size (fun k hk => by cases hk; exact hb)
/-- the code a law is handed -/
abbrev CodeAt (w : World) (a : Option Addr) (bs : List Int) : Prop := BytesAt w a bs
theorem BytesAt.new {w : World} {a : Option Addr} {bs : List Int} (h : BytesAt w a bs) (hn : bs ≠ []) (c o : Nat) (e : a = some ⟨c, o, none⟩) : c < w.heap.size := by
  obtain ⟨b, o', rfl, hc⟩ := h.2.2 hn
  have h0 : 0 < bs.length := by cases bs; exact absurd rfl hn; simp
  have h1 := World.block_lt_of_cell? w ⟨b, o' + 0, none⟩ (hc 0 h0)
  have := congrArg (fun z => (z.map (·.block)).getD 0) e
  simp at this; simp at h1; omega
/-- the fresh list's block is not the source's -/
theorem new_ne {w : World} {b : Nat} (h : Src w b) (o : Nat) : (some ⟨w.heap.size, 0, none⟩ : Option Addr) ≠ some ⟨b, o, none⟩ := fun e => by
  obtain ⟨ca, cc, bs, t, s, hX⟩ := h
  have := hX.lt
  have := congrArg (fun z => (z.map (·.block)).getD 0) e
  simp at this; omega
/-- a store into a block behind the source's -/
theorem Src.past {w : World} {b : Nat} (h : Src w b) {c j : Nat} (hc : b < c) (v : Value) : Src (w.setCell ⟨c, j, none⟩ v) b := by
  obtain ⟨ca, cc, bs, t, s, hX⟩ := h
  have ho : ∀ (k i : Nat), k ≠ c → (w.setCell ⟨c, j, none⟩ v).cell? ⟨k, i, none⟩ = w.cell? ⟨k, i, none⟩ := fun k i hk =>
    World.cell?_setCell_other _ _ _ _ (fun e => hk (by have := congrArg Addr.block e; simpa using this.symm))
  refine ⟨ca, cc, bs, t, s, (ho _ _ (by omega)).trans hX.c0, (ho _ _ (by omega)).trans hX.c1, (ho _ _ (by omega)).trans hX.c2, (frozen_set _ _ _ _).trans hX.f1, (frozen_set _ _ _ _).trans hX.f2, hX.ht, hX.hs, hX.bytes.of fun hn b' o u ha i hv => ?_, hX.ne⟩
  have := hX.ne hn b' o ha
  rw [ho _ _ (by omega)]; exact hv
/-- a store into new memory -/
theorem grownBy_new {a c : World} {r : Option Nat} (h : a.grownBy c r) {k j : Nat} (hk : a.heap.size ≤ k) (v : Value) : a.grownBy (c.setCell ⟨k, j, none⟩ v) r :=
  ⟨h.os, h.tape, h.output, by simpa using h.size, fun i hi hn => (Below.heap_setCell _ _ _ _ (by simp; omega)).trans (h.block i hi hn)⟩
theorem Src.alloc {w : World} {b : Nat} (h : Src w b) (o : Obj) : Src (w.alloc o) b := h.ext ((Ext.refl w).alloc o)
theorem nth_I64 {xs : List Int} (h : ∀ i, i < xs.length → I64 (nth xs i)) {x : Int} (hx : ∃ i, i < xs.length ∧ x = nth xs i) : I64 x := by obtain ⟨i, hi, rfl⟩ := hx; exact h i hi
theorem four_I64 {a b c d : Int} (ha : I64 a) (hb : I64 b) (hc : I64 c) (hd : I64 d) {x : Int} (hx : ∃ i, i < [a, b, c, d].length ∧ x = nth [a, b, c, d] i) : I64 x :=
  nth_I64 (fun i hi => by
    have : i = 0 ∨ i = 1 ∨ i = 2 ∨ i = 3 := by simp at hi; omega
    rcases this with rfl | rfl | rfl | rfl <;> assumption) hx

theorem big_c (ca : Option Addr) (cc : Nat) (n : Nat) (w : World) (hn : (n : Int) ≤ 9223372036854775807) :
    Calls Tryz.prog 4 #[.slice ca n cc] w (fun e w' => ∃ t, e = .returned (.bool t) ∧ w = w') := by
  go_enter Tryz.func4, Tryz.ntmps4
  go_wp2_with fail
  go_ret
  exact ⟨_, rfl, rfl⟩

end Go.Proofs.YtkipbfjkcdccjaaGreatDoor
