/- Contracts of the draws of pairs of matrices, and of the laws' dice. Conditions: the code reads; the dice read. -/
import Derived.Test.YtljchmkoafahgaaD5
namespace Go.Proofs.Ytljchmkoafahgaa
set_option linter.unusedVariables false
set_option linter.unusedSimpArgs false
open Go.RowKit

/-- two drawn matrices -/
def DrawnMM (w : World) (e : Ending) (w' : World) : Prop := ∃ a ka M b kb N, e = .returned (.tuple #[.slice a (M : List (List Int)).length ka, .slice b (N : List (List Int)).length kb]) ∧ OwnM w' w.heap.size (.slice a M.length ka) M ∧ OwnM w' w.heap.size (.slice b N.length kb) N ∧ M.length ≤ 100 ∧ N.length ≤ 100 ∧
  (∀ i, i < M.length → (row M i).length ≤ 100) ∧ (∀ i, i < N.length → (row N i).length ≤ 100) ∧ Ext w w'
theorem drawn_mono {w w1 w2 : World} {b : Nat} {a : Option Addr} {cap : Nat} {M : List (List Int)} (hE : Ext w w1) (h : OwnM w2 w1.heap.size (.slice a M.length cap) M) : OwnM w2 w.heap.size (.slice a M.length cap) M := h.mono hE.size
theorem keepD {w0 w : World} {b : Nat} {p : Addr} {v : Value} (c : w0.cell? p = some v) (hne : p.block ≠ b) (h : w0.grownBy w (some b)) (hS : Src w b) : w0.grownBy w (some b) ∧ Src w b ∧ w.cell? p = some v := ⟨h, hS, h.cell c (by simpa using hne)⟩
set_option maxHeartbeats 1000000 in
theorem DrawMul_c (ca : Option Addr) (cc : Nat) (bs : List Int) (w : World) (h : CodeAt w ca bs) :
    Calls Try.prog 45 #[.slice ca bs.length cc] w (DrawnMM w) := by
  rw [show (DrawnMM w) = fun e w' => ∃ a ka M b kb N, e = .returned (.tuple #[.slice a (M : List (List Int)).length ka, .slice b (N : List (List Int)).length kb]) ∧ OwnM w' w.heap.size (.slice a M.length ka) M ∧ OwnM w' w.heap.size (.slice b N.length kb) N ∧ M.length ≤ 100 ∧ N.length ≤ 100 ∧
    (∀ i, i < M.length → (row M i).length ≤ 100) ∧ (∀ i, i < N.length → (row N i).length ≤ 100) ∧ Ext w w' from rfl]
  go_enter Try.func45, Try.ntmps45
  go_wp2_with fail
  refine (l01From_c _ _ _ _ h h.new).mono ?_
  rintro e w1 ⟨b, rfl, hE1, hb, hS1⟩
  have hbl := hS1.lt
  go_wp2_with fail
  refine (l02Draw_c b _ hS1).mono ?_
  rintro e w2 ⟨a, cap, M, rfl, hO2, hl, hr, hS2, hG2⟩
  go_wp2_with fail
  refine (l01Next_c b _ _ hS2 (by omega) (by omega)).mono ?_
  rintro e w3 ⟨x, rfl, -, hS3, hG3⟩
  have hO3 := hO2.drawnB hbl hG3
  have hG := grownBy_trans hG2 hG3
  clear hO2 hS2 hG2 hG3 hS1
  have hdr : ∀ (w4 : World), Src w4 b → w3.grownBy w4 (some b) → OwnM w4 w1.heap.size (.slice a M.length cap) M →
      Calls Try.prog 95 #[.pointer (some ⟨b, 0, none⟩)] w4 fun e w5 => ∃ d cd N, e = .returned (.slice d (N : List (List Int)).length cd) ∧ OwnM w5 w.heap.size (.slice d N.length cd) N ∧ N.length ≤ 100 ∧ (∀ i, i < N.length → (row N i).length ≤ 100) ∧ OwnM w5 w.heap.size (.slice a M.length cap) M ∧ Ext w w5 := fun w4 hS hG4 hO =>
    (l02Draw_c b w4 hS).mono fun e w5 ⟨d, cd, N, he, hO5, hl5, hr5, hS5, hG5⟩ =>
      ⟨d, cd, N, he, hO5.mono (by have := hE1.size; have := hG.size; have := hG4.size; omega), hl5, hr5, (hO.drawnB hbl hG5).mono hE1.size, hE1.src hb (grownBy_trans (grownBy_trans hG hG4) hG5)⟩
  have HDr := Lib.hid hdr
  clear hdr
  by_cases hx : x = 0
  · have hx' : (x == 0) = true := by rw [hx]; rfl
    have HC := Lib.hid (HDr.out w3 hS3 (World.grownBy.refl' _ _) hO3)
    clear hx hO3 hS3
    go_wp2_with fail
    refine HC.out.mono ?_
    rintro e w5 ⟨d, cd, N, rfl, h1, h2, h3, h4, h5⟩
    go_wp2
    go_ret2
    exact ⟨a, cap, M, d, cd, N, rfl, h4, h1, hl, h2, hr, h3, h5⟩
  have hx' : (x == 0) = false := by rw [beq_eq_false_iff_ne]; exact hx
  have hm3 := Lib.hid hO3.mat
  clear hx
  cases hM : isMat M
  · go_wp2_with fail
    refine (asB hM (sIsMatrix_c _ _ _ _ hm3.out)).mono ?_
    rintro e w4 ⟨rfl, hq⟩
    have HC := Lib.hid (HDr.out w4 (hS3.ext hq.ext) (grownBy_ext _ hq.ext) (hO3.ext hq.ext))
    clear hO3 hS3
    go_wp2_with fail
    refine HC.out.mono ?_
    rintro e w5 ⟨d, cd, N, rfl, h1, h2, h3, h4, h5⟩
    go_wp2
    go_ret2
    exact ⟨a, cap, M, d, cd, N, rfl, h4, h1, hl, h2, hr, h3, h5⟩
  have hrc := isMat_rect hM
  have HRc := Lib.hid hrc
  obtain ⟨p, o, rfl⟩ := hO3.mat.base (by omega)
  obtain ⟨q, o2, c, d1, -, -⟩ := hO3.mat.hdr hrc.1 (i := 0) (by omega) (by omega)
  rw [Nat.add_zero] at d1
  have hpb : p ≠ b := fun e => by
    have := hO3.base p rfl
    omega
  have hML : (0 : Int) < (M.length : Int) := by omega
  have hlM1 : 1 ≤ M.length := hrc.2.1
  have hML2 : 0 < M.length := hrc.2.1
  have hML3 : ¬ M.length = 0 := by omega
  have hlR1 : 1 ≤ (row M 0).length := hrc.2.2.2.1
  have hlR2 : (row M 0).length ≤ 10 := hrc.2.2.2.2
  have hlM2 : M.length ≤ 10 := hrc.2.2.1
  clear hrc
  go_wp2_with fail
  refine (asB hM (sIsMatrix_c _ _ _ _ hm3.out)).mono ?_
  rintro e w4 ⟨rfl, hq⟩
  replace d1 := (hq.cell _).trans d1
  have hS4 := hS3.ext hq.ext
  have hO4 := hO3.ext hq.ext
  have hG4 := grownBy_trans hG (grownBy_ext (some b) hq.ext)
  clear hO3 hS3 hm3 hG
  go_upto_region 5 with fail
  go_region_held3 (fun w' => w4.grownBy w' (some b) ∧ Src w' b ∧ w'.cell? ⟨p, o, none⟩ = some (.slice (some ⟨q, o2, none⟩) (row M 0).length c))
    ((refine keepD d1 (by simpa using hpb) ?_ ?_ <;> (first | exact And.left ‹w4.grownBy _ _ ∧ _› | exact And.left (And.right ‹w4.grownBy _ _ ∧ _›) | exact grownBy_drew (World.grownBy.refl' _ _) | exact hS4.drew | exact grownBy_trans (And.left ‹w4.grownBy _ _ ∧ _›) hG6 | exact hS6 | exact grownBy_trans (And.left ‹w4.grownBy _ _ ∧ _›) hG7 | exact hS7)))
    (first
      | (go_at_call 96; refine (l01Next_c b _ _ (And.left (And.right ‹w4.grownBy _ _ ∧ _›)) (by omega) (by omega)).mono ?_; rintro e w6 ⟨y, rfl, ⟨hy1, -, hy2⟩, hS6, hG6⟩; obtain ⟨yn, hyn⟩ : ∃ yn : Nat, 1 + y = (yn : Int) := ⟨(1 + y).toNat, by omega⟩; have hy3 := hy2 (by omega); have hyb : (yn : Int) ≤ 4 ∧ 1 ≤ (yn : Int) := (by omega); have hwy : IntKind.i64.wrap (1 + y) = 1 + y := IntWalk.i64_in _ (by omega); have Hyn := Lib.hid hyn; clear hyn hy2)
      | (go_at_call 103; rw [Hyn.out]; refine (l02DrawSize_c b _ yn _ (And.left (And.right ‹w4.grownBy _ _ ∧ _›)) hlR1 (by omega) (by omega) (by omega)).mono ?_; rintro e w7 ⟨d, cd, N, rfl, hO7, hl7, hr7, hS7, hG7⟩))
  all_goals
    have hGe : w4.grownBy w7 (some b) := And.left ‹w4.grownBy _ _ ∧ _›
    have hOf := hO4.drawnB hbl hGe
    have hEf := hE1.src hb (grownBy_trans hG4 hGe)
    have hO7' := hO7.mono (Nat.le_trans hE1.size (Nat.le_trans hG4.size hG6.size))
    go_wp2
    go_ret2
    exact ⟨_, cap, M, d, cd, N, rfl, hOf.mono hE1.size, hO7', hl, hl7, hr, hr7, hEf⟩
set_option maxHeartbeats 1000000 in
theorem DrawAdd_c (ca : Option Addr) (cc : Nat) (bs : List Int) (w : World) (h : CodeAt w ca bs) :
    Calls Try.prog 47 #[.slice ca bs.length cc] w (DrawnMM w) := by
  rw [show (DrawnMM w) = fun e w' => ∃ a ka M b kb N, e = .returned (.tuple #[.slice a (M : List (List Int)).length ka, .slice b (N : List (List Int)).length kb]) ∧ OwnM w' w.heap.size (.slice a M.length ka) M ∧ OwnM w' w.heap.size (.slice b N.length kb) N ∧ M.length ≤ 100 ∧ N.length ≤ 100 ∧
    (∀ i, i < M.length → (row M i).length ≤ 100) ∧ (∀ i, i < N.length → (row N i).length ≤ 100) ∧ Ext w w' from rfl]
  go_enter Try.func47, Try.ntmps47
  go_wp2_with fail
  refine (l01From_c _ _ _ _ h h.new).mono ?_
  rintro e w1 ⟨b, rfl, hE1, hb, hS1⟩
  have hbl := hS1.lt
  go_wp2_with fail
  refine (l02Draw_c b _ hS1).mono ?_
  rintro e w2 ⟨a, cap, M, rfl, hO2, hl, hr, hS2, hG2⟩
  go_wp2_with fail
  refine (l01Next_c b _ _ hS2 (by omega) (by omega)).mono ?_
  rintro e w3 ⟨x, rfl, -, hS3, hG3⟩
  have hO3 := hO2.drawnB hbl hG3
  have hG := grownBy_trans hG2 hG3
  clear hO2 hS2 hG2 hG3 hS1
  have hdr : ∀ (w4 : World), Src w4 b → w3.grownBy w4 (some b) → OwnM w4 w1.heap.size (.slice a M.length cap) M →
      Calls Try.prog 95 #[.pointer (some ⟨b, 0, none⟩)] w4 fun e w5 => ∃ d cd N, e = .returned (.slice d (N : List (List Int)).length cd) ∧ OwnM w5 w.heap.size (.slice d N.length cd) N ∧ N.length ≤ 100 ∧ (∀ i, i < N.length → (row N i).length ≤ 100) ∧ OwnM w5 w.heap.size (.slice a M.length cap) M ∧ Ext w w5 := fun w4 hS hG4 hO =>
    (l02Draw_c b w4 hS).mono fun e w5 ⟨d, cd, N, he, hO5, hl5, hr5, hS5, hG5⟩ =>
      ⟨d, cd, N, he, hO5.mono (by have := hE1.size; have := hG.size; have := hG4.size; omega), hl5, hr5, (hO.drawnB hbl hG5).mono hE1.size, hE1.src hb (grownBy_trans (grownBy_trans hG hG4) hG5)⟩
  have HDr := Lib.hid hdr
  clear hdr
  by_cases hx : x = 0
  · have hx' : (x == 0) = true := by rw [hx]; rfl
    have HC := Lib.hid (HDr.out w3 hS3 (World.grownBy.refl' _ _) hO3)
    clear hx hO3 hS3
    go_wp2_with fail
    refine HC.out.mono ?_
    rintro e w5 ⟨d, cd, N, rfl, h1, h2, h3, h4, h5⟩
    go_wp2
    go_ret2
    exact ⟨a, cap, M, d, cd, N, rfl, h4, h1, hl, h2, hr, h3, h5⟩
  have hx' : (x == 0) = false := by rw [beq_eq_false_iff_ne]; exact hx
  have hm3 := Lib.hid hO3.mat
  clear hx
  cases hM : isMat M
  · go_wp2_with fail
    refine (asB hM (sIsMatrix_c _ _ _ _ hm3.out)).mono ?_
    rintro e w4 ⟨rfl, hq⟩
    have HC := Lib.hid (HDr.out w4 (hS3.ext hq.ext) (grownBy_ext _ hq.ext) (hO3.ext hq.ext))
    clear hO3 hS3
    go_wp2_with fail
    refine HC.out.mono ?_
    rintro e w5 ⟨d, cd, N, rfl, h1, h2, h3, h4, h5⟩
    go_wp2
    go_ret2
    exact ⟨a, cap, M, d, cd, N, rfl, h4, h1, hl, h2, hr, h3, h5⟩
  have hrc := isMat_rect hM
  have HRc := Lib.hid hrc
  obtain ⟨p, o, rfl⟩ := hO3.mat.base (by omega)
  obtain ⟨q, o2, c, d1, -, -⟩ := hO3.mat.hdr hrc.1 (i := 0) (by omega) (by omega)
  rw [Nat.add_zero] at d1
  have hpb : p ≠ b := fun e => by
    have := hO3.base p rfl
    omega
  have hML : (0 : Int) < (M.length : Int) := by omega
  have hlM1 : 1 ≤ M.length := hrc.2.1
  have hML2 : 0 < M.length := hrc.2.1
  have hML3 : ¬ M.length = 0 := by omega
  have hlR1 : 1 ≤ (row M 0).length := hrc.2.2.2.1
  have hlR2 : (row M 0).length ≤ 10 := hrc.2.2.2.2
  have hlM2 : M.length ≤ 10 := hrc.2.2.1
  clear hrc
  go_wp2_with fail
  refine (asB hM (sIsMatrix_c _ _ _ _ hm3.out)).mono ?_
  rintro e w4 ⟨rfl, hq⟩
  replace d1 := (hq.cell _).trans d1
  have hS4 := hS3.ext hq.ext
  have hO4 := hO3.ext hq.ext
  have hG4 := grownBy_trans hG (grownBy_ext (some b) hq.ext)
  clear hO3 hS3 hm3 hG
  have hC := l02DrawSize_c b M.length (row M 0).length w4 hS4 hlM1 hlR1 (by omega) (by omega)
  have HC := Lib.hid hC
  clear hC hS4
  go_wp2_with fail
  refine HC.out.mono ?_
  rintro e w5 ⟨d, cd, N, rfl, hO7, hl7, hr7, hS7, hG7⟩
  have hOf := hO4.drawnB hbl hG7
  have hEf := hE1.src hb (grownBy_trans hG4 hG7)
  have hO7' := hO7.mono (Nat.le_trans hE1.size hG4.size)
  go_wp2
  go_ret2
  exact ⟨_, cap, M, d, cd, N, rfl, hOf.mono hE1.size, hO7', hl, hl7, hr, hr7, hEf⟩
/-- the laws' dice: block b holds the code, the place in it and the number -/
structure DiceX (w : World) (b : Nat) (ca : Option Addr) (cc : Nat) (bs : List Int) (t s : Int) : Prop where
  c0 : w.cell? ⟨b, 0, none⟩ = some (.slice ca bs.length cc)
  c1 : w.cell? ⟨b, 1, none⟩ = some (.int .i64 t)
  c2 : w.cell? ⟨b, 2, none⟩ = some (.int .u64 s)
  f1 : w.frozen? ⟨b, 1, none⟩ = false
  f2 : w.frozen? ⟨b, 2, none⟩ = false
  ht : 0 ≤ t ∧ t ≤ bs.length
  bytes : BytesAt w ca bs
  ne : bs ≠ [] → ∀ c o, ca = some ⟨c, o, none⟩ → c < b
def Dice (w : World) (b : Nat) : Prop := ∃ ca cc bs t s, DiceX w b ca cc bs t s
section
variable {w w' : World} {b : Nat} {ca : Option Addr} {cc : Nat} {bs : List Int} {t s : Int}
theorem DiceX.lt (h : DiceX w b ca cc bs t s) : b < w.heap.size := World.block_lt_of_cell? w ⟨b, 0, none⟩ h.c0
theorem Dice.lt (h : Dice w b) : b < w.heap.size := by obtain ⟨ca, cc, bs, t, s, hX⟩ := h; exact hX.lt
theorem DiceX.set (h : DiceX w b ca cc bs t s) (t' s' : Int) (ht : 0 ≤ t' ∧ t' ≤ bs.length) (h0 : w'.cell? ⟨b, 0, none⟩ = w.cell? ⟨b, 0, none⟩) (h1 : w'.cell? ⟨b, 1, none⟩ = some (.int .i64 t')) (h2 : w'.cell? ⟨b, 2, none⟩ = some (.int .u64 s'))
    (hf : ∀ a, w'.frozen? a = w.frozen? a) (ho : ∀ a : Addr, a.block ≠ b → w'.cell? a = w.cell? a) : DiceX w' b ca cc bs t' s' :=
  ⟨h0.trans h.c0, h1, h2, (hf _).trans h.f1, (hf _).trans h.f2, ht, h.bytes.of fun hn b' o v ha j hv => by
    rw [ho]; exact hv
    intro e; simp only at e; subst e; exact Nat.lt_irrefl _ (h.ne hn _ o ha), h.ne⟩
theorem DiceX.num (h : DiceX w b ca cc bs t s) (s' : Int) : DiceX (w.setCell ⟨b, 2, none⟩ (.int .u64 s')) b ca cc bs t s' := by
  have h0 := h.c0; have h1 := h.c1; have h2 := h.c2
  refine h.set t s' h.ht ?_ ?_ (World.cell?_setCell_same _ _ _ h2) (fun a => frozen_set _ _ _ _) (fun a ha => ?_)
  · exact World.cell?_setCell_other _ _ _ _ (by simp)
  · rw [World.cell?_setCell_other _ _ _ _ (by simp)]; exact h1
  · exact World.cell?_setCell_other _ _ _ _ (fun e => ha (by rw [← e]))
theorem DiceX.at (h : DiceX w b ca cc bs t s) (t' : Int) (ht : 0 ≤ t' ∧ t' ≤ bs.length) : DiceX (w.setCell ⟨b, 1, none⟩ (.int .i64 t')) b ca cc bs t' s := by
  have h0 := h.c0; have h1 := h.c1; have h2 := h.c2
  refine h.set t' s ht ?_ (World.cell?_setCell_same _ _ _ h1) ?_ (fun a => frozen_set _ _ _ _) (fun a ha => ?_)
  · exact World.cell?_setCell_other _ _ _ _ (by simp)
  · rw [World.cell?_setCell_other _ _ _ _ (by simp)]; exact h2
  · exact World.cell?_setCell_other _ _ _ _ (fun e => ha (by rw [← e]))
theorem DiceX.ext (h : DiceX w b ca cc bs t s) (e : Ext w w') : DiceX w' b ca cc bs t s :=
  ⟨e.cell h.c0, e.cell h.c1, e.cell h.c2, by rw [e.frozen (a := ⟨b, 1, none⟩) h.lt]; exact h.f1, by rw [e.frozen (a := ⟨b, 2, none⟩) h.lt]; exact h.f2, h.ht, h.bytes.mono e, h.ne⟩
theorem DiceX.qt (h : DiceX w b ca cc bs t s) (q : Qt w w') : DiceX w' b ca cc bs t s := h.ext q.ext
theorem Dice.ext (h : Dice w b) (e : Ext w w') : Dice w' b := by obtain ⟨ca, cc, bs, t, s, hX⟩ := h; exact ⟨ca, cc, bs, t, s, hX.ext e⟩
theorem Dice.row {r : Option Nat} (h : Dice w b) (g : w.grownBy w' r) (hr : ∀ k, r = some k → b < k) : Dice w' b := by
  obtain ⟨ca, cc, bs, t, s, hX⟩ := h
  have hlt := hX.lt
  have hb : ∀ i, w'.cell? ⟨b, i, none⟩ = w.cell? ⟨b, i, none⟩ := fun i => g.cell_far _ hlt (fun e => by have := hr b e.symm; omega)
  have hf : ∀ i, w'.frozen? ⟨b, i, none⟩ = w.frozen? ⟨b, i, none⟩ := fun i => g.frozen_far _ hlt (fun e => by have := hr b e.symm; omega)
  exact ⟨ca, cc, bs, t, s, (hb 0).trans hX.c0, (hb 1).trans hX.c1, (hb 2).trans hX.c2, (hf 1).trans hX.f1, (hf 2).trans hX.f2, hX.ht, hX.bytes.of fun hn b' o v ha j hv => by
    have hlt2 := hX.ne hn b' o ha
    rw [g.cell_far ⟨b', o + j, none⟩ (Nat.lt_trans hlt2 hlt) (fun e => by have := hr b' e.symm; omega)]; exact hv, hX.ne⟩
end
theorem tmod_bd (x : Int) {n : Int} (h : 1 ≤ n) : -n < x.tmod n ∧ x.tmod n < n := by
  have h1 : (x.tmod n).natAbs = x.natAbs % n.natAbs := Int.natAbs_tmod x n
  have h2 : x.natAbs % n.natAbs < n.natAbs := Nat.mod_lt _ (by omega)
  omega
set_option maxRecDepth 100000 in
set_option maxHeartbeats 1000000 in
theorem below_c (b : Nat) (n : Int) (w : World) (h : Dice w b) (hn1 : 1 ≤ n) (hn2 : n ≤ 1000000) :
    Calls Try.prog 54 #[.pointer (some ⟨b, 0, none⟩), .int .i64 n] w fun e w' => ∃ x, e = .returned (.int .i64 x) ∧ (-n < x ∧ x < n) ∧ Dice w' b ∧ w.grownBy w' (some b) := by
  obtain ⟨ca, cc, bs, t, s, hX⟩ := h
  obtain ⟨s', hs'⟩ : ∃ s', IntKind.u64.wrap (IntKind.u64.wrap (s * 6364136223846793005) + 1442695040888963407) = s' := ⟨_, rfl⟩
  have c2 := hX.c2
  have f2 := hX.f2
  have hX1 := hX.num s'
  have hg1 := grownBy_set w b 2 (.int .u64 s')
  obtain ⟨W1, hW1⟩ : ∃ W, w.setCell ⟨b, 2, none⟩ (.int .u64 s') = W := ⟨_, rfl⟩
  rw [hW1] at hX1 hg1
  have d0 := hX1.c0
  have d1 := hX1.c1
  have d2 := hX1.c2
  have hbl := hX1.bytes.1
  have ht := hX1.ht
  obtain ⟨ht0, ht1⟩ := ht
  have hn0 : (n == 0) = false := by rw [beq_eq_false_iff_ne]; omega
  have Hs := Lib.hid hs'
  clear hX
  by_cases hlt : t < (bs.length : Int)
  · obtain ⟨k, rfl⟩ := Int.eq_ofNat_of_zero_le ht0
    have hk : k < bs.length := by omega
    obtain ⟨b2, o2, rfl, hc⟩ := hX1.bytes.at hk
    have y1 := hc k hk
    obtain ⟨y, hy⟩ : ∃ y, nth bs k = y := ⟨_, rfl⟩
    rw [hy] at y1
    clear hc hy
    go_enter Try.func54, Try.ntmps54
    go_wp2_with fail
    clear hs' c2 f2 hW1 Hs d2
    go_big_quiet (fail)
    have hX2 := hX1.qt ((Qt.refl W1).drewN nq)
    have hg2 := grownBy_qt hg1 ((Qt.refl W1).drewN nq)
    have z1 : (W1.drewN nq).cell? ⟨b2, o2 + k, none⟩ = some (.int .u8 y) := y1
    generalize W1.drewN nq = W2 at *
    clear d0 d1 y1 hX1 hg1
    have d0 := hX2.c0
    have d1 := hX2.c1
    go_wp2_with fail
    go_big_quiet (fail)
    have hX3 := hX2.qt ((Qt.refl W2).drewN nq)
    have hg3 := grownBy_qt hg2 ((Qt.refl W2).drewN nq)
    generalize W2.drewN nq = W3 at *
    clear d0 d1 z1 hX2 hg2
    have d1 := hX3.c1
    have f1 := hX3.f1
    have hX4 := hX3.at ((k : Int) + 1) (by omega)
    have hg4 := grownBy_trans hg3 (grownBy_set W3 b 1 (.int .i64 ((k : Int) + 1)))
    go_wp2_with fail
    go_ret
    exact ⟨_, rfl, tmod_bd _ hn1, ⟨_, _, _, _, _, hX4⟩, hg4⟩
  · have et : t = bs.length := by omega
    clear hlt
    go_enter Try.func54, Try.ntmps54
    go_wp2_with fail
    clear hs' c2 f2 hW1 Hs d2
    go_big_quiet (fail)
    have hX2 := hX1.qt ((Qt.refl W1).drewN nq)
    have hg2 := grownBy_qt hg1 ((Qt.refl W1).drewN nq)
    go_wp2_with fail
    go_ret
    exact ⟨_, rfl, tmod_bd _ hn1, ⟨_, _, _, _, _, hX2⟩, hg2⟩
set_option maxHeartbeats 1000000 in
theorem roll_c (ca : Option Addr) (cc : Nat) (bs : List Int) (seed : Int) (w : World) (h : CodeAt w ca bs) :
    Calls Try.prog 53 #[.slice ca bs.length cc, .int .u64 seed] w (fun e w' => ∃ b, e = .returned (.pointer (some ⟨b, 0, none⟩)) ∧ Ext w w' ∧ w.heap.size ≤ b ∧ Dice w' b) := by
  have hlen := h.1
  have hO := h.new
  go_enter Try.func53, Try.ntmps53
  go_wp2_with fail
  go_loopw [6] (fun i wr => ∃ (k : Nat) (s : Int), k ≤ bs.length ∧ i = .int .i64 k ∧ Ext w wr ∧ DiceX wr w.heap.size ca cc bs 0 s) (fun i _ => bs.length - (intOf i).toNat)
  case atStart =>
    refine ⟨0, IntKind.u64.wrap (IntKind.u64.wrap (seed * 9103) + (bs.length : Int)), Nat.zero_le _, rfl, (Ext.refl w).alloc _, ?_, ?_, ?_, ?_, ?_, ⟨by omega, by omega⟩, h.mono ((Ext.refl w).alloc _), hO⟩
    all_goals simp
  case round =>
    obtain ⟨k, s, hk, rfl, hE, hX⟩ := hrel
    have c2 := hX.c2
    have f2 := hX.f2
    by_cases hlt : (k : Int) < bs.length
    · obtain ⟨b2, o2, rfl, hc⟩ := h.at (i := k) (by omega)
      have y0 := hE.cell (hc k (by omega))
      generalize nth bs k = y at *
      clear hc
      go_wp2_with fail
      refine region_qt_lit 15 (by kernel_rfl) (by kernel_rfl) ?_
      simp only [List.take_succ_cons, List.take_zero, List.drop_succ_cons, List.drop_zero]
      repeat (go_big_quiet_step ((fail)))
      refine wpQuiet_nil ?_
      intro _ hw'
      obtain ⟨nq, hw''⟩ := hw'
      subst hw''
      go_wp2
      go_roundw
      case rel =>
        refine ⟨k + 1, _, by omega, by go_num, ?_, (hX.qt ((Qt.refl wr).drewN nq)).num _⟩
        repeat (first | exact hE | refine Ext.drewN ?_ _ | refine Ext.drew ?_ | refine Ext.set ?_ (Nat.le_refl _) _)
      case measure => simp [intOf]; omega
    · go_wp2_with fail
      go_ret
      exact ⟨_, rfl, hE, Nat.le_refl _, ⟨_, _, _, _, _, hX⟩⟩
end Go.Proofs.Ytljchmkoafahgaa
