/- Contracts of the texts of numbers and values. Conditions: the table of powers lies in memory. -/
import Derived.Test.YtokhkpbebimohaaDoorGS
import Derived.Test.YtokhkpbebimohaaDoorGB
import Derived.Test.YtokhkpbebimohaaDoorShelf
import Derived.Laws.IdiomStrings
import Derived.Deep.RegionLaw
import Derived.Deep.RegionWith
import Derived.Lib.ItoaNum
namespace Go.Proofs.YtokhkpbebimohaaDoor
set_option linter.unusedVariables false
set_option linter.unusedSimpArgs false
open Go.RowKit

/-- one byte becomes a string -/
theorem conv_one (w : World) (a : Addr) (z : Int) (b : UInt8) (hc : w.cell? a = some (.int .u8 z)) (hz : (b.toNat : Int) = z) : (convert 35 9 (.slice (some a) 1 1)).run Tryd.prog w = .ok (.string ⟨#[b]⟩) w := by
  have h := run_convert_bytes_back (P := Tryd.prog) w 35 9 5 a 1 [b] Tryd.underlying35 Tryd.underlying5 Tryd.underlying9 (fun j hj => by
    obtain rfl : j = 0 := by simpa using hj
    have ha : a.add 0 = a := by simp [Addr.add]
    rw [ha, hc, ← hz]; rfl)
  exact h
/-- a digit -/
def dgt (n : Nat) : UInt8 := UInt8.ofNat (48 + n)
theorem dgt_toNat {n : Nat} (h : n < 10) : ((dgt n).toNat : Int) = 48 + (n : Int) := by
  unfold dgt
  rw [UInt8.toNat_ofNat_of_lt' (by show 48 + n < 256; omega)]; omega
theorem dec_small {u : Nat} (h : u < 10) : Lib.decDigits u = [dgt u] := by rw [Lib.decDigits, dif_pos h]; rfl
theorem dec_big {u : Nat} (h : ¬ u < 10) : Lib.decDigits u = Lib.decDigits (u / 10) ++ [dgt (u % 10)] := by rw [Lib.decDigits, dif_neg h]; rfl
theorem dec_len (d u : Nat) (h : u < 10 ^ d) : (Lib.decDigits u).length ≤ d + 1 := by
  induction d generalizing u with
  | zero => have : u = 0 := by simpa using h
            subst this; rw [dec_small (by omega)]; simp
  | succ d ih =>
    by_cases h10 : u < 10
    · rw [dec_small h10]; simp
    · rw [dec_big h10, List.length_append]
      have := ih (u / 10) (by rw [Nat.pow_succ] at h; omega)
      simp; omega
theorem cell_drew' {w : World} {a : Addr} {v : Value} (h : w.cell? a = some v) : w.drew.cell? a = some v := h
set_option maxRecDepth 100000 in
theorem l01Dec_c : ∀ (d u : Nat), d ≤ 30 → u < 10 ^ d → u ≤ 4000000000000000000 → ∀ w : World, Calls Tryd.prog 70 #[.int .i64 (u : Int)] w fun e w' => e = .returned (.string ⟨(Lib.decDigits u).toArray⟩) ∧ Ext w w' := by
  intro d
  induction d with
  | zero =>
    intro u hd hu hu2 w
    have h0 : u = 0 := by simpa using hu
    subst h0
    have kc := conv_one (w.alloc (.cells #[.int .u8 48] 5)) ⟨w.heap.size, 0, none⟩ 48 (dgt 0) (cell_one _ _ _) (dgt_toNat (by omega))
    have hE := (Ext.refl w).alloc (.cells #[.int .u8 48] 5)
    rw [dec_small (by omega)]
    go_enter Tryd.func70, Tryd.ntmps70
    go_wp2
    go_ret
    exact ⟨rfl, hE⟩
  | succ d ih =>
    intro u hd hu hu2 w
    by_cases h10 : u < 10
    · have hw8 : IntKind.u8.wrap (48 + (u : Int)) = 48 + (u : Int) := by simp [IntKind.wrap, IntKind.min, IntKind.max, IntKind.signed, IntKind.bits]; omega
      have kc := conv_one (w.alloc (.cells #[.int .u8 (48 + (u : Int))] 5)) ⟨w.heap.size, 0, none⟩ (48 + (u : Int)) (dgt u) (cell_one _ _ _) (dgt_toNat h10)
      have hE := (Ext.refl w).alloc (.cells #[.int .u8 (48 + (u : Int))] 5)
      rw [dec_small h10]
      go_enter Tryd.func70, Tryd.ntmps70
      go_wp2
      go_ret
      exact ⟨rfl, hE⟩
    · have hih := fun w' => ih (u / 10) (by omega) (by rw [Nat.pow_succ] at hu; omega) (by omega) w'
      have hl := dec_len d (u / 10) (by rw [Nat.pow_succ] at hu; omega)
      rw [dec_big h10]
      have hu10 : ((u / 10 : Nat) : Int) = (u : Int) / 10 := by omega
      rw [hu10] at hih
      have HIh := Lib.hid hih
      have hr : ((u % 10 : Nat) : Int) = (u : Int) % 10 := by omega
      clear hih
      have kc := fun (w : World) (a : Addr) (hc : w.cell? a = some (.int .u8 (48 + (u : Int) % 10))) => conv_one w a (48 + (u : Int) % 10) (dgt (u % 10)) hc (by rw [dgt_toNat (by omega), hr])
      have hw8 : IntKind.u8.wrap (48 + (u : Int) % 10) = 48 + (u : Int) % 10 := by simp [IntKind.wrap, IntKind.min, IntKind.max, IntKind.signed, IntKind.bits]; omega
      have ht : (u : Int).tmod 10 = (u : Int) % 10 := Int.tmod_eq_emod_of_nonneg (by omega)
      have hw7 : IntKind.i64.wrap ((u : Int) / 10) = (u : Int) / 10 := IntWalk.i64_in _ (by omega)
      have hw6 : IntKind.i64.wrap (48 + (u : Int) % 10) = 48 + (u : Int) % 10 := IntWalk.i64_in _ (by omega)
      have hsz : ¬ 9223372036854775807 < (Lib.decDigits (u / 10)).length + 1 := by omega
      have happ : (⟨(Lib.decDigits (u / 10)).toArray⟩ : ByteArray) ++ ⟨#[dgt (u % 10)]⟩ = ⟨(Lib.decDigits (u / 10) ++ [dgt (u % 10)]).toArray⟩ := by
        have := ByteArray.mk_append_mk (Lib.decDigits (u / 10)) [dgt (u % 10)]
        simpa using this
      have hba : (ByteArray.size ⟨(Lib.decDigits (u / 10)).toArray⟩) = (Lib.decDigits (u / 10)).length := by simp [ByteArray.size]
      go_enter Tryd.func70, Tryd.ntmps70
      go_wp2_with fail
      go_region_with (go_at_call 70; refine (HIh.out _).mono ?_; rintro e w7 ⟨rfl, hE7⟩; first | have c7 := hE7.cell (cell_one w _ 5) | have c7 := hE7.cell (cell_drew' (cell_one w _ 5)) | skip)
      all_goals
        go_wp2
        go_ret
        first
          | exact ⟨rfl, ((Ext.refl w).alloc _).drew.trans hE7⟩
          | exact ⟨rfl, ((Ext.refl w).drew.trans hE7).alloc _⟩
theorem l01Number_c (n : Int) (hn : -1000000000000000 ≤ n ∧ n ≤ 1000000000000000) (w : World) : Calls Tryd.prog 55 #[.int .i64 n] w fun e w' => e = .returned (.string ⟨(Lib.itoa n).toArray⟩) ∧ Ext w w' := by
  by_cases h0 : n < 0
  · have e : Lib.itoa n = 45 :: Lib.decDigits n.natAbs := by unfold Lib.itoa; rw [if_pos h0]
    rw [e]
    have hd := fun w' => l01Dec_c 18 n.natAbs (by omega) (by omega) (by omega) w'
    have hl := dec_len 18 n.natAbs (by omega)
    have hna : ((n.natAbs : Nat) : Int) = -n := by omega
    rw [hna] at hd
    have HD := Lib.hid hd
    have hw : IntKind.i64.wrap (-n) = -n := IntWalk.i64_in _ (by omega)
    have happ : (⟨#[45]⟩ : ByteArray) ++ ⟨(Lib.decDigits n.natAbs).toArray⟩ = ⟨(45 :: Lib.decDigits n.natAbs).toArray⟩ := by
      have := ByteArray.mk_append_mk [45] (Lib.decDigits n.natAbs)
      simpa using this
    have hsz : ¬ 9223372036854775807 < 1 + (Lib.decDigits n.natAbs).length := by omega
    clear hd hna
    go_enter Tryd.func55, Tryd.ntmps55
    go_wp2_with fail
    refine (HD.out _).mono ?_
    rintro e w2 ⟨rfl, hE⟩
    go_wp2
    go_ret
    exact ⟨rfl, hE⟩
  · have e : Lib.itoa n = Lib.decDigits n.toNat := by unfold Lib.itoa; rw [if_neg h0]
    rw [e]
    have hd := fun w' => l01Dec_c 18 n.toNat (by omega) (by omega) (by omega) w'
    have hna : ((n.toNat : Nat) : Int) = n := by omega
    rw [hna] at hd
    have HD := Lib.hid hd
    clear hd hna
    go_enter Tryd.func55, Tryd.ntmps55
    go_wp2_with fail
    refine (HD.out _).mono ?_
    rintro e w2 ⟨rfl, hE⟩
    go_wp2
    go_ret
    exact ⟨rfl, hE⟩
/-- the text of a value -/
def valT (a : Int) : List UInt8 := if isVal a then (if a = -1000000000000000 then [46] else Lib.itoa a) else []
theorem l01Text_c (n : Int) (hn : isVal n = true) (w : World) : Calls Tryd.prog 34 #[.int .i64 n] w fun e w' => e = .returned (.string ⟨(valT n).toArray⟩) ∧ Ext w w' := by
  by_cases h : n = -1000000000000000
  · have e : valT n = [46] := by unfold valT; rw [if_pos hn, if_pos h]
    rw [e]
    subst h
    go_enter Tryd.func34, Tryd.ntmps34
    go_wp2
    go_ret
    exact ⟨rfl, Ext.refl _⟩
  · have e : valT n = Lib.itoa n := by unfold valT; rw [if_pos hn, if_neg h]
    rw [e]
    have h' : (n == -1000000000000000) = false := by simpa using h
    have hb := (isVal_iff.1 hn).resolve_left h
    clear h hn
    go_enter Tryd.func34, Tryd.ntmps34
    go_wp2_with fail
    refine (l01Number_c n (by omega) _).mono ?_
    rintro e w2 ⟨rfl, hE⟩
    go_wp2
    go_ret
    exact ⟨rfl, hE⟩
theorem specValueText_c (n : Int) (w : World) : Calls Tryd.prog 13 #[.int .i64 n] w fun e w' => e = .returned (.string ⟨(valT n).toArray⟩) ∧ Ext w w' := by
  cases h : isVal n
  · have e : valT n = [] := by unfold valT; rw [h]; rfl
    rw [e]
    go_enter Tryd.func13, Tryd.ntmps13
    go_wp2_with fail
    refine (asB h (sIsValue_c n _)).mono ?_
    rintro e w2 ⟨rfl, rfl⟩
    go_wp2
    go_ret
    exact ⟨rfl, Ext.refl _⟩
  · go_enter Tryd.func13, Tryd.ntmps13
    go_wp2_with fail
    refine (asB h (sIsValue_c n _)).mono ?_
    rintro e w2 ⟨rfl, rfl⟩
    go_wp2_with fail
    refine (l01Text_c n h _).mono ?_
    rintro e w2 ⟨rfl, hE⟩
    go_wp2
    go_ret
    exact ⟨rfl, hE⟩
/-- the library's table of powers lies in memory -/
def Tb (w : World) : Prop := Lib.TabIs Tryd.prog w "internal/strconv.uint64pow10" .u64 Lib.pow10Tab
theorem gTb : Tryd.prog.globalNamed "internal/strconv.uint64pow10" = some 5 := by kernel_rfl
theorem Tb.lt {w : World} (h : Tb w) : 5 < w.heap.size := by
  have h1 := World.var?_cell gTb h 0
  have h2 := World.block_lt_of_cell? w ⟨5, 0, none⟩ (h1.trans (rfl : ((Lib.pow10Tab.map fun z => Value.int .u64 z).toArray)[0]? = some (.int .u64 1)))
  exact h2
theorem Tb.ext {w w' : World} (h : Tb w) (e : Ext w w') : Tb w' := by
  have hv : w.var? Tryd.prog "internal/strconv.uint64pow10" = some (Lib.pow10Tab.map fun z => Value.int .u64 z).toArray := h
  unfold World.var? at hv
  show w'.var? Tryd.prog "internal/strconv.uint64pow10" = _
  unfold World.var?
  simp only [gTb, Option.bind_some] at hv ⊢
  rw [Below.block e _ h.lt]
  exact hv
theorem grow_ext (w : World) (os : Array Obj) : Ext w (Sort.grow w os) := by
  refine ⟨rfl, rfl, rfl, by simp [Sort.grow], fun k hk => ?_⟩
  show (w.heap ++ os)[k]? = w.heap[k]?
  rw [Array.getElem?_append_left hk]
theorem decimal_c (n : Int) (h0 : -9223372036854775808 ≤ n) (h1 : n ≤ 9223372036854775807) (w : World) (ht : Tb w) : Calls Tryd.prog 56 #[.int .i64 n] w fun e w' => e = .returned (.string ⟨(Lib.itoa n).toArray⟩) ∧ Ext w w' := by
  have hc := fun w' (h : Tb w') => Tryd.strconv_FormatInt_10 n h0 h1 w' h
  have HC := Lib.hid hc
  have HT := Lib.hid ht
  clear hc ht
  go_enter Tryd.func56, Tryd.ntmps56
  go_wp2_with fail
  refine (HC.out _ HT.out).mono ?_
  rintro e w2 ⟨rfl, k, os, rfl⟩
  go_wp2
  go_ret
  exact ⟨rfl, ((Ext.refl w).drewN k).trans (grow_ext _ os)⟩
theorem valueText_c (n : Int) (hn : isVal n = true) (w : World) (ht : Tb w) : Calls Tryd.prog 36 #[.int .i64 n] w fun e w' => e = .returned (.string ⟨(valT n).toArray⟩) ∧ Ext w w' := by
  by_cases h : n = -1000000000000000
  · have e : valT n = [46] := by unfold valT; rw [if_pos hn, if_pos h]
    rw [e]
    subst h
    clear ht
    go_enter Tryd.func36, Tryd.ntmps36
    go_wp2
    go_ret
    exact ⟨rfl, Ext.refl _⟩
  · have e : valT n = Lib.itoa n := by unfold valT; rw [if_pos hn, if_neg h]
    rw [e]
    have h' : (n == -1000000000000000) = false := by simpa using h
    have hb := (isVal_iff.1 hn).resolve_left h
    have hd := fun w' (h : Tb w') => decimal_c n (by omega) (by omega) w' h
    have HD := Lib.hid hd
    have HT := Lib.hid ht
    clear h hn hd ht
    go_enter Tryd.func36, Tryd.ntmps36
    go_wp2_with fail
    refine (HD.out _ HT.out).mono ?_
    rintro e w2 ⟨rfl, hE⟩
    go_wp2
    go_ret
    exact ⟨rfl, hE⟩
theorem implValueText_c (n : Int) (w : World) (ht : Tb w) : Calls Tryd.prog 14 #[.int .i64 n] w fun e w' => e = .returned (.string ⟨(valT n).toArray⟩) ∧ Ext w w' := by
  have HT := Lib.hid ht
  clear ht
  cases h : isVal n
  · have e : valT n = [] := by unfold valT; rw [h]; rfl
    rw [e]
    go_enter Tryd.func14, Tryd.ntmps14
    go_wp2_with fail
    refine (asB h (isValue_c n _)).mono ?_
    rintro e w2 ⟨rfl, rfl⟩
    go_wp2
    go_ret
    exact ⟨rfl, Ext.refl _⟩
  · go_enter Tryd.func14, Tryd.ntmps14
    go_wp2_with fail
    refine (asB h (isValue_c n _)).mono ?_
    rintro e w2 ⟨rfl, rfl⟩
    go_wp2_with fail
    refine (valueText_c n h _ HT.out).mono ?_
    rintro e w2 ⟨rfl, hE⟩
    go_wp2
    go_ret
    exact ⟨rfl, hE⟩
theorem FnExactValueText_walk (n : Int) (_ : -9223372036854775808 ≤ n ∧ n ≤ 9223372036854775807) {w : World} (ht : Tb w) : Calls Tryd.prog 4 #[.int .i64 n] w fun e w' => e = .returned (.bool true) ∧ Ext w w' := by
  have HT := Lib.hid ht
  clear ht
  go_enter Tryd.func4, Tryd.ntmps4
  go_wp2_with fail
  refine (specValueText_c n _).mono ?_
  rintro e w2 ⟨rfl, hE⟩
  go_wp2_with fail
  refine (implValueText_c n _ (HT.out.ext hE)).mono ?_
  rintro e w3 ⟨rfl, hE3⟩
  go_wp2
  go_ret
  exact ⟨rfl, hE.trans hE3⟩
end Go.Proofs.YtokhkpbebimohaaDoor
