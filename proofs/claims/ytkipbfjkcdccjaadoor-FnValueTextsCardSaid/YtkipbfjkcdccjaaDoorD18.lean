/- Texts drawn and damaged. Conditions: the source lies in memory; the texts are short. -/
import Derived.Test.YtkipbfjkcdccjaaDoorD1
import Derived.Test.YtkipbfjkcdccjaaDoorT4
import Derived.Test.YtkipbfjkcdccjaaDoorT2
import Derived.Deep.RegionWith
import Derived.BigQuiet
import Derived.Deep.QuietTactic
namespace Go.Proofs.YtkipbfjkcdccjaaDoor
set_option linter.unusedVariables false
set_option linter.unusedSimpArgs false
open Go.RowKit

/-- a drawn text: at most K bytes; the source goes on -/
def DrT (K : Nat) (b : Nat) (w : World) (e : Ending) (w' : World) : Prop := ∃ l : List UInt8, e = .returned (.string ⟨l.toArray⟩) ∧ l.length ≤ K ∧ Src w' b ∧ w.grownBy w' (some b)
def insT : List (List UInt8) := [[48], [49], [32], [45], [46], [44], [10], [59]]
theorem app_eq (a b : List UInt8) : (⟨a.toArray⟩ : ByteArray) ++ ⟨b.toArray⟩ = ⟨(a ++ b).toArray⟩ := by
  have := ByteArray.mk_append_mk a b
  simpa using this
theorem insT_len (q : Nat) : (pc insT q).length ≤ 1 := by
  by_cases h : q < 8
  · have : q = 0 ∨ q = 1 ∨ q = 2 ∨ q = 3 ∨ q = 4 ∨ q = 5 ∨ q = 6 ∨ q = 7 := by omega
    rcases this with rfl | rfl | rfl | rfl | rfl | rfl | rfl | rfl <;> decide
  · have : pc insT q = [] := by unfold pc; rw [List.getD_eq_getElem?_getD, List.getElem?_eq_none (by simp [insT]; omega)]; rfl
    rw [this]; simp
theorem lit_s (w : World) {q : Nat} (h : q < 8) : (w.alloc (.cells #[.string ⟨#[48]⟩, .string ⟨#[49]⟩, .string ⟨#[32]⟩, .string ⟨#[45]⟩, .string ⟨#[46]⟩, .string ⟨#[44]⟩, .string ⟨#[10]⟩, .string ⟨#[59]⟩] 9)).cell? ⟨w.heap.size, q, none⟩ = some (.string ⟨(pc insT q).toArray⟩) := by
  have : q = 0 ∨ q = 1 ∨ q = 2 ∨ q = 3 ∨ q = 4 ∨ q = 5 ∨ q = 6 ∨ q = 7 := by omega
  rcases this with rfl | rfl | rfl | rfl | rfl | rfl | rfl | rfl <;> simp [pc, insT]
theorem grown_cell {w w' : World} {b : Nat} (g : w.grownBy w' (some b)) {a : Addr} {v : Value} (h : w.cell? a = some v) (hb : a.block ≠ b) : w'.cell? a = some v := by
  have hlt : a.block < w.heap.size := World.block_lt_of_cell? w a h
  rw [← h]
  unfold World.cell?
  rw [g.block a.block hlt (fun e => hb (Option.some.inj e))]
theorem lit_kept (w w7 : World) (b p : Nat) (g : (w.alloc (.cells #[.string ⟨#[48]⟩, .string ⟨#[49]⟩, .string ⟨#[32]⟩, .string ⟨#[45]⟩, .string ⟨#[46]⟩, .string ⟨#[44]⟩, .string ⟨#[10]⟩, .string ⟨#[59]⟩] 9)).drew.grownBy w7 (some b)) (hb : b < w.heap.size) (hp : p < 8) : w7.cell? ⟨w.heap.size, p, none⟩ = some (.string ⟨(pc insT p).toArray⟩) :=
  grown_cell g (lit_s w hp) (Nat.ne_of_gt hb)
set_option maxHeartbeats 2000000 in
theorem l01Damage_c (b : Nat) (l : List UInt8) (hl : l.length ≤ 1000000) (w : World) (h : Src w b) :
    Calls Tryd.prog 48 #[.pointer (some ⟨b, 0, none⟩), .string ⟨l.toArray⟩] w (DrT (l.length + 1) b w) := by
  have hsz := size_mk l
  go_enter Tryd.func48, Tryd.ntmps48
  go_wp2_with fail
  refine (l01Next_c b _ _ h (by omega) (by omega)).mono ?_
  rintro e w2 ⟨k, rfl, ⟨hk0, hk1, hk2⟩, hS2, hG2⟩
  have hkl : k ≤ l.length := by
    by_cases h0 : (l.length : Int) + 1 ≤ 1
    · rw [hk1 h0]; omega
    · have := hk2 (by omega); omega
  obtain ⟨q, rfl⟩ : ∃ q : Nat, k = q := ⟨k.toNat, by omega⟩
  have hq : q ≤ l.length := by omega
  clear hk0 hk1 hk2 hkl
  go_wp2_with fail
  refine (l01Next_c b _ _ hS2 (by omega) (by omega)).mono ?_
  rintro e w3 ⟨c, rfl, ⟨hc0, -, hc2⟩, hS3, hG3⟩
  have hG := grownBy_trans hG2 hG3
  clear hG2 hG3 hS2 hc2
  have hx1 := ext_eq l 0 q
  rw [List.drop_zero, Nat.sub_zero] at hx1
  by_cases c0 : c = 0
  · subst c0
    go_wp2
    go_ret
    exact ⟨l.take q, rfl, by simp; omega, hS3, hG⟩
  · have d0 : (c == 0) = false := by simpa using c0
    by_cases c1 : c = 1
    · subst c1
      have hx2 := ext_eq l q l.length
      have hle : ∀ n, (l.take q).length + (pc insT n).length + ((l.drop q).take (l.length - q)).length ≤ l.length + 1 := fun n => by
        have := insT_len n
        simp; omega
      obtain ⟨A, hA⟩ : ∃ A, l.take q = A := ⟨_, rfl⟩
      obtain ⟨C, hC⟩ : ∃ C, (l.drop q).take (l.length - q) = C := ⟨_, rfl⟩
      rw [hA, hC] at hle
      rw [hA] at hx1
      rw [hC] at hx2
      clear hA hC
      have HLe := Lib.hid hle
      have hb3 : b < w3.heap.size := by obtain ⟨ca, cc, bs, t, s, hX⟩ := hS3; exact hX.lt
      clear hle
      go_wp2
      go_region_with (go_at_call 47; refine (l01Next_c b _ _ (by first | exact hS3 | exact hS3.ext (((Ext.refl w3).alloc _).drew) | exact hS3.ext (Ext.refl w3).drew) (by omega) (by omega)).mono ?_; rintro e w7 ⟨i, rfl, ⟨hi0, -, hi2⟩, hS7, hG7⟩; have hi3 := hi2 (by decide); clear hi2; obtain ⟨p, rfl⟩ : ∃ p : Nat, i = p := ⟨i.toNat, by omega⟩; have hp : p < 8 := (by omega); have hp2 : (p : Int) < 8 := (by omega); have hp0 : (0 : Int) ≤ (p : Int) := (by omega); clear hi3 hi0; have hap1 := app_eq A (pc insT p); have hap2 := app_eq (A ++ pc insT p) C; have hz1 : ¬ 9223372036854775807 < A.length + (pc insT p).length := (by have := HLe.out p; omega); have hz2 : ¬ 9223372036854775807 < A.length + (pc insT p).length + C.length := (by have := HLe.out p; omega); have c8 := lit_s w7 hp; have c9 := lit_s w7.drew hp; first | have c7 := lit_kept w3 w7 b p hG7 hb3 hp | skip)
      all_goals
        have hlf := HLe.out p
        clear HLe c8 c9 hap1 hap2 hz1 hz2
        go_wp2
        go_ret
        first
          | exact ⟨_, rfl, by simp; omega, hS7, grownBy_trans hG (grownBy_trans (grownBy_ext _ (((Ext.refl w3).alloc _).drew)) hG7)⟩
          | exact ⟨_, rfl, by simp; omega, hS7.alloc _, grownBy_trans (grownBy_trans (grownBy_trans hG (grownBy_ext _ (Ext.refl w3).drew)) hG7) (grownBy_ext _ ((Ext.refl w7).alloc _))⟩
    · have d1 : (c == 1) = false := by simpa using c1
      by_cases c2 : c = 2
      · subst c2
        have hx2 := ext_eq l (q + 1) l.length
        have happ := app_eq (l.take q) ((l.drop (q + 1)).take (l.length - (q + 1)))
        have hw : IntKind.i64.wrap ((q : Int) + 1) = (q : Int) + 1 := IntWalk.i64_in _ (by omega)
        have hsz2 : ¬ 9223372036854775807 < (l.take q).length + ((l.drop (q + 1)).take (l.length - (q + 1))).length := by simp; omega
        by_cases hlt : q < l.length
        · go_wp2
          go_quiet (fail)
          go_wp2
          go_ret
          exact ⟨_, rfl, by simp; omega, hS3.ext (Qt.ext ⟨nq, rfl⟩), grownBy_qt hG ⟨nq, rfl⟩⟩
        · go_wp2
          go_ret
          exact ⟨l, rfl, by omega, hS3, hG⟩
      · have d2 : (c == 2) = false := by simpa using c2
        go_wp2
        go_ret
        exact ⟨l, rfl, by omega, hS3, hG⟩
theorem DrawValueText_c (ca : Option Addr) (cc : Nat) (bs : List Int) (w : World) (h : CodeAt w ca bs) :
    Calls Tryd.prog 22 #[.slice ca bs.length cc] w (fun e w' => ∃ x, e = .returned (.int .i64 x) ∧ I64 x ∧ Ext w w') := by
  go_enter Tryd.func22, Tryd.ntmps22
  go_wp2_with fail
  refine (l01From_c _ _ _ _ h h.new).mono ?_
  rintro e w1 ⟨b, rfl, hE1, hb, hS1⟩
  go_wp2_with fail
  refine (l01DrawValue_c b _ hS1).mono ?_
  rintro e w2 ⟨x, rfl, hx, hS2, hG2⟩
  go_wp2_with fail
  go_ret
  exact ⟨x, rfl, hx, hE1.src hb hG2⟩
set_option maxHeartbeats 1000000 in
theorem DrawReadValue_c (ca : Option Addr) (cc : Nat) (bs : List Int) (w : World) (h : CodeAt w ca bs) :
    Calls Tryd.prog 23 #[.slice ca bs.length cc] w (fun e w' => ∃ l : List UInt8, e = .returned (.string ⟨l.toArray⟩) ∧ l.length ≤ 1000 ∧ Ext w w') := by
  go_enter Tryd.func23, Tryd.ntmps23
  go_wp2_with fail
  refine (l01From_c _ _ _ _ h h.new).mono ?_
  rintro e w1 ⟨b, rfl, hE1, hb, hS1⟩
  go_wp2_with fail
  refine (l01DrawValue_c b _ hS1).mono ?_
  rintro e w2 ⟨x, rfl, hx, hS2, hG2⟩
  have hE2 := hE1.src hb hG2
  go_wp2_with fail
  refine (specValueText_c x _).mono ?_
  rintro e w3 ⟨rfl, hE3⟩
  have hS3 := hS2.ext hE3
  have hE4 := hE2.trans hE3
  have hvl := valT_len x
  clear hG2 hE1 hE2 hE3 hS1 hS2
  go_wp2_with fail
  refine (l01Next_c b _ _ hS3 (by omega) (by omega)).mono ?_
  rintro e w4 ⟨c, rfl, -, hS4, hG4⟩
  have hE5 := hE4.src hb hG4
  clear hE4 hG4 hS3
  by_cases c0 : c = 0
  · subst c0
    go_wp2_with fail
    refine (l01Damage_c b (valT x) (by omega) _ hS4).mono ?_
    rintro e w5 ⟨l, rfl, hl, hS5, hG5⟩
    go_wp2_with fail
    go_ret
    exact ⟨l, rfl, by omega, hE5.src hb hG5⟩
  · have d0 : (c == 0) = false := by simpa using c0
    go_wp2_with fail
    go_ret
    exact ⟨valT x, rfl, by omega, hE5⟩
end Go.Proofs.YtkipbfjkcdccjaaDoor
