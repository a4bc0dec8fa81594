/- Contracts of the texts of numbers and values, the reference's side. No condition. -/
import Derived.Test.YtkipbfjkcdccjaaDoorGS
import Derived.Test.YtkipbfjkcdccjaaDoorGB
import Derived.Test.YtkipbfjkcdccjaaDoorT0
import Derived.Laws.IdiomStrings
import Derived.Deep.RegionLaw
import Derived.Deep.RegionWith
namespace Go.Proofs.YtkipbfjkcdccjaaDoor
set_option linter.unusedVariables false
set_option linter.unusedSimpArgs false
open Go.RowKit

/-- one byte becomes a string -/
theorem conv_one (w : World) (a : Addr) (z : Int) (b : UInt8) (hc : w.cell? a = some (.int .u8 z)) (hz : (b.toNat : Int) = z) : (convert 35 9 (.slice (some a) 1 1)).run Tryd.prog w = .ok (.string ⟨#[b]⟩) w := by
  have h := run_convert_bytes_back (P := Tryd.prog) w 35 9 5 a 1 [b] Tryd.underlying35 Tryd.underlying5 Tryd.underlying9 (fun j hj => by
    obtain rfl : j = 0 := by simpa using hj
    have ha : a.add 0 = a := by simp [Addr.add]
    rw [ha, hc, ← hz]; rfl)
  exact h
theorem cell_drew' {w : World} {a : Addr} {v : Value} (h : w.cell? a = some v) : w.drew.cell? a = some v := h
set_option maxRecDepth 100000 in
theorem l01Dec_c : ∀ (d u : Nat), d ≤ 30 → u < 10 ^ d → u ≤ 4000000000000000000 → ∀ w : World, Calls Tryd.prog 70 #[.int .i64 (u : Int)] w fun e w' => e = .returned (.string ⟨(Lib.decDigits u).toArray⟩) ∧ Ext w w' := by
  intro d
  induction d with
  | zero =>
    intro u hd hu hu2 w
    have h0 : u = 0 := by simpa using hu
    subst h0
    have kc := conv_one (w.alloc (.cells #[.int .u8 48] 5)) ⟨w.heap.size, 0, none⟩ 48 (dgt 0) (cell_one _ _ _) (dgt_toNat (by omega))
    have hE := (Ext.refl w).alloc (.cells #[.int .u8 48] 5)
    rw [dec_small (by omega)]
    go_enter Tryd.func70, Tryd.ntmps70
    go_wp2
    go_ret
    exact ⟨rfl, hE⟩
  | succ d ih =>
    intro u hd hu hu2 w
    by_cases h10 : u < 10
    · have hw8 : IntKind.u8.wrap (48 + (u : Int)) = 48 + (u : Int) := by simp [IntKind.wrap, IntKind.min, IntKind.max, IntKind.signed, IntKind.bits]; omega
      have kc := conv_one (w.alloc (.cells #[.int .u8 (48 + (u : Int))] 5)) ⟨w.heap.size, 0, none⟩ (48 + (u : Int)) (dgt u) (cell_one _ _ _) (dgt_toNat h10)
      have hE := (Ext.refl w).alloc (.cells #[.int .u8 (48 + (u : Int))] 5)
      rw [dec_small h10]
      go_enter Tryd.func70, Tryd.ntmps70
      go_wp2
      go_ret
      exact ⟨rfl, hE⟩
    · have hih := fun w' => ih (u / 10) (by omega) (by rw [Nat.pow_succ] at hu; omega) (by omega) w'
      have hl := dec_len d (u / 10) (by rw [Nat.pow_succ] at hu; omega)
      rw [dec_big h10]
      have hu10 : ((u / 10 : Nat) : Int) = (u : Int) / 10 := by omega
      rw [hu10] at hih
      have HIh := Lib.hid hih
      have hr : ((u % 10 : Nat) : Int) = (u : Int) % 10 := by omega
      clear hih
      have kc := fun (w : World) (a : Addr) (hc : w.cell? a = some (.int .u8 (48 + (u : Int) % 10))) => conv_one w a (48 + (u : Int) % 10) (dgt (u % 10)) hc (by rw [dgt_toNat (by omega), hr])
      have hw8 : IntKind.u8.wrap (48 + (u : Int) % 10) = 48 + (u : Int) % 10 := by simp [IntKind.wrap, IntKind.min, IntKind.max, IntKind.signed, IntKind.bits]; omega
      have ht : (u : Int).tmod 10 = (u : Int) % 10 := Int.tmod_eq_emod_of_nonneg (by omega)
      have hw7 : IntKind.i64.wrap ((u : Int) / 10) = (u : Int) / 10 := IntWalk.i64_in _ (by omega)
      have hw6 : IntKind.i64.wrap (48 + (u : Int) % 10) = 48 + (u : Int) % 10 := IntWalk.i64_in _ (by omega)
      have hsz : ¬ 9223372036854775807 < (Lib.decDigits (u / 10)).length + 1 := by omega
      have happ : (⟨(Lib.decDigits (u / 10)).toArray⟩ : ByteArray) ++ ⟨#[dgt (u % 10)]⟩ = ⟨(Lib.decDigits (u / 10) ++ [dgt (u % 10)]).toArray⟩ := by
        have := ByteArray.mk_append_mk (Lib.decDigits (u / 10)) [dgt (u % 10)]
        simpa using this
      have hba : (ByteArray.size ⟨(Lib.decDigits (u / 10)).toArray⟩) = (Lib.decDigits (u / 10)).length := by simp [ByteArray.size]
      go_enter Tryd.func70, Tryd.ntmps70
      go_wp2_with fail
      go_region_with (go_at_call 70; refine (HIh.out _).mono ?_; rintro e w7 ⟨rfl, hE7⟩; first | have c7 := hE7.cell (cell_one w _ 5) | have c7 := hE7.cell (cell_drew' (cell_one w _ 5)) | skip)
      all_goals
        go_wp2
        go_ret
        first
          | exact ⟨rfl, ((Ext.refl w).alloc _).drew.trans hE7⟩
          | exact ⟨rfl, ((Ext.refl w).drew.trans hE7).alloc _⟩
theorem l01Number_c (n : Int) (hn : -1000000000000000 ≤ n ∧ n ≤ 1000000000000000) (w : World) : Calls Tryd.prog 55 #[.int .i64 n] w fun e w' => e = .returned (.string ⟨(Lib.itoa n).toArray⟩) ∧ Ext w w' := by
  by_cases h0 : n < 0
  · have e : Lib.itoa n = 45 :: Lib.decDigits n.natAbs := by unfold Lib.itoa; rw [if_pos h0]
    rw [e]
    have hd := fun w' => l01Dec_c 18 n.natAbs (by omega) (by omega) (by omega) w'
    have hl := dec_len 18 n.natAbs (by omega)
    have hna : ((n.natAbs : Nat) : Int) = -n := by omega
    rw [hna] at hd
    have HD := Lib.hid hd
    have hw : IntKind.i64.wrap (-n) = -n := IntWalk.i64_in _ (by omega)
    have happ : (⟨#[45]⟩ : ByteArray) ++ ⟨(Lib.decDigits n.natAbs).toArray⟩ = ⟨(45 :: Lib.decDigits n.natAbs).toArray⟩ := by
      have := ByteArray.mk_append_mk [45] (Lib.decDigits n.natAbs)
      simpa using this
    have hsz : ¬ 9223372036854775807 < 1 + (Lib.decDigits n.natAbs).length := by omega
    clear hd hna
    go_enter Tryd.func55, Tryd.ntmps55
    go_wp2_with fail
    refine (HD.out _).mono ?_
    rintro e w2 ⟨rfl, hE⟩
    go_wp2
    go_ret
    exact ⟨rfl, hE⟩
  · have e : Lib.itoa n = Lib.decDigits n.toNat := by unfold Lib.itoa; rw [if_neg h0]
    rw [e]
    have hd := fun w' => l01Dec_c 18 n.toNat (by omega) (by omega) (by omega) w'
    have hna : ((n.toNat : Nat) : Int) = n := by omega
    rw [hna] at hd
    have HD := Lib.hid hd
    clear hd hna
    go_enter Tryd.func55, Tryd.ntmps55
    go_wp2_with fail
    refine (HD.out _).mono ?_
    rintro e w2 ⟨rfl, hE⟩
    go_wp2
    go_ret
    exact ⟨rfl, hE⟩
theorem l01Text_c (n : Int) (hn : isVal n = true) (w : World) : Calls Tryd.prog 34 #[.int .i64 n] w fun e w' => e = .returned (.string ⟨(valT n).toArray⟩) ∧ Ext w w' := by
  by_cases h : n = -1000000000000000
  · have e : valT n = [46] := by unfold valT; rw [if_pos hn, if_pos h]
    rw [e]
    subst h
    go_enter Tryd.func34, Tryd.ntmps34
    go_wp2
    go_ret
    exact ⟨rfl, Ext.refl _⟩
  · have e : valT n = Lib.itoa n := by unfold valT; rw [if_pos hn, if_neg h]
    rw [e]
    have h' : (n == -1000000000000000) = false := by simpa using h
    have hb := (isVal_iff.1 hn).resolve_left h
    clear h hn
    go_enter Tryd.func34, Tryd.ntmps34
    go_wp2_with fail
    refine (l01Number_c n (by omega) _).mono ?_
    rintro e w2 ⟨rfl, hE⟩
    go_wp2
    go_ret
    exact ⟨rfl, hE⟩
theorem specValueText_c (n : Int) (w : World) : Calls Tryd.prog 13 #[.int .i64 n] w fun e w' => e = .returned (.string ⟨(valT n).toArray⟩) ∧ Ext w w' := by
  cases h : isVal n
  · have e : valT n = [] := by unfold valT; rw [h]; rfl
    rw [e]
    go_enter Tryd.func13, Tryd.ntmps13
    go_wp2_with fail
    refine (asB h (sIsValue_c n _)).mono ?_
    rintro e w2 ⟨rfl, rfl⟩
    go_wp2
    go_ret
    exact ⟨rfl, Ext.refl _⟩
  · go_enter Tryd.func13, Tryd.ntmps13
    go_wp2_with fail
    refine (asB h (sIsValue_c n _)).mono ?_
    rintro e w2 ⟨rfl, rfl⟩
    go_wp2_with fail
    refine (l01Text_c n h _).mono ?_
    rintro e w2 ⟨rfl, hE⟩
    go_wp2
    go_ret
    exact ⟨rfl, hE⟩
end Go.Proofs.YtkipbfjkcdccjaaDoor
