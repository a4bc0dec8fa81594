/- Contracts of reading a value, the reference's side. -/
import Derived.Test.YtkipbfjkcdccjaaGreatDoorT6
import Derived.Lib.IndexBytes
namespace Go.Proofs.YtkipbfjkcdccjaaGreatDoor
set_option linter.unusedVariables false
set_option linter.unusedSimpArgs false
open Go.RowKit

theorem ret_ib {a b : Int} {c d : Bool} (h : a = b) (k : c = d) : Ending.returned (.tuple #[.int .i64 a, .bool c]) = .returned (.tuple #[.int .i64 b, .bool d]) := by rw [h, k]
theorem size_mk (l : List UInt8) : ByteArray.size ⟨l.toArray⟩ = l.length := by simp [ByteArray.size]
theorem ext_eq (l : List UInt8) (a b : Nat) : (⟨l.toArray⟩ : ByteArray).extract a b = ⟨((l.drop a).take (b - a)).toArray⟩ := by
  have h := Lib.extract_data ⟨l.toArray⟩ a b
  have e : ((⟨l.toArray⟩ : ByteArray).extract a b).data = ((l.drop a).take (b - a)).toArray := by
    rw [← h]
  exact ByteArray.ext e
theorem l01Digits_c (l : List UInt8) (hl : l.length ≤ 140737488355328) (w : World) : Calls Tryz.prog 67 #[.string ⟨l.toArray⟩] w fun e w' => e = .returned (.tuple #[.int .i64 (digR l).1, .bool (digR l).2]) ∧ Ext w w' := by
  have hsz := size_mk l
  by_cases h : 1 ≤ l.length ∧ l.length ≤ 10
  · go_enter Tryz.func67, Tryz.ntmps67
    go_wp2
    go_loop [4, 5] (fun n i => ∃ k : Nat, k ≤ l.length ∧ n = .int .i64 (valD (l.take k) : Int) ∧ i = .int .i64 k ∧ Hid (∀ j, j < k → 48 ≤ bt l j ∧ bt l j ≤ 57)) (fun _ i => l.length - (intOf i).toNat)
    case atStart => exact ⟨0, Nat.zero_le _, rfl, rfl, fun j hj => absurd hj (Nat.not_lt_zero _)⟩
    case round =>
      obtain ⟨k, hk, rfl, rfl, hj⟩ := hrel
      by_cases hlt : k < l.length
      · have hix : ∀ w : World, (Instr.index 9 (.string ⟨l.toArray⟩) (.int .i64 (k : Int))).run Tryz.prog w = .ok (.int .u8 (bt l k : Int)) w := by
          intro w
          rw [run_index_string _ _ _ _ _ Tryz.underlying9, dif_pos ⟨by omega, by rw [hsz]; omega⟩]
          have : ((⟨l.toArray⟩ : ByteArray)[(k : Int).toNat]'(by rw [hsz]; omega)).toNat = bt l k := by
            rw [← bt_at l k hlt]; rfl
          rw [this]
        by_cases hd : 48 ≤ bt l k ∧ bt l k ≤ 57
        · have hb := bt_lt l k
          have hv := valD_take l k hlt
          have hvb := valD_bd l k (fun j h => (hj.out j h).2) (by omega)
          have hvb2 : 10 ^ k ≤ 10 ^ 9 := Nat.pow_le_pow_right (by omega) (by omega)
          have hw8 : IntKind.u8.wrap ((bt l k : Int) - 48) = (bt l k : Int) - 48 := by simp [IntKind.wrap, IntKind.min, IntKind.max, IntKind.signed, IntKind.bits]; omega
          go_wp2
          go_round
          case rel => exact ⟨k + 1, by omega, by rw [hv]; congr 1; omega, by go_num, fun j h => by
            by_cases e : j = k
            · subst e; exact hd
            · exact hj.out j (by omega)⟩
          case measure => simp [intOf]; omega
        · have hno := digR_no (l := l) fun hh => hd (hh.2.2 k hlt)
          have HNO := Lib.hid hno
          clear hno
          by_cases h48 : bt l k < 48
          · go_wp2
            go_ret2
            exact ⟨ret_ib (by rw [HNO.out]) (by rw [HNO.out]), Ext.refl _⟩
          · have h57 : 57 < bt l k := by omega
            go_wp2
            go_ret2
            exact ⟨ret_ib (by rw [HNO.out]) (by rw [HNO.out]), Ext.refl _⟩
      · obtain rfl : k = l.length := by omega
        have hvb := valD_bd l l.length (fun j h => (hj.out j h).2) (by omega)
        have hvb2 : 10 ^ l.length ≤ 10 ^ 10 := Nat.pow_le_pow_right (by omega) (by omega)
        have hyes := digR_yes (l := l) ⟨h.1, h.2, fun j hj' => hj.out j hj'⟩
        rw [List.take_length] at hvb
        have hd := fun w' => l01Dec_c 10 (valD l) (by omega) (by omega) (by omega) w'
        have HD := Lib.hid hd
        have HY := Lib.hid hyes
        rw [List.take_length]
        clear hd hyes
        go_wp2_with fail
        refine (HD.out _).mono ?_
        rintro e w2 ⟨rfl, hE⟩
        go_wp2
        go_ret2
        exact ⟨ret_ib (by rw [HY.out]) (by rw [HY.out]), hE⟩
  · rw [digR_no fun hh => h ⟨hh.1, hh.2.1⟩]
    by_cases h1 : l.length < 1
    · go_enter Tryz.func67, Tryz.ntmps67
      go_wp2
      go_ret2
      exact ⟨rfl, Ext.refl _⟩
    · have h2 : 10 < l.length := by omega
      go_enter Tryz.func67, Tryz.ntmps67
      go_wp2
      go_ret2
      exact ⟨rfl, Ext.refl _⟩
theorem l01Signed_c (l : List UInt8) (hl : l.length ≤ 140737488355328) (w : World) : Calls Tryz.prog 53 #[.string ⟨l.toArray⟩] w fun e w' => e = .returned (.tuple #[.int .i64 (sgnRd l).1, .bool (sgnRd l).2]) ∧ Ext w w' := by
  have hsz := size_mk l
  cases l with
  | nil =>
    have hd := fun w' => l01Digits_c [] (by simp) w'
    have HD := Lib.hid hd
    have HE := Lib.hid (show sgnRd [] = digR [] from rfl)
    clear hd
    go_enter Tryz.func53, Tryz.ntmps53
    go_wp2_with fail
    refine (HD.out _).mono ?_
    rintro e w2 ⟨rfl, hE⟩
    go_wp2
    go_ret2
    exact ⟨ret_ib (by rw [HE.out]) (by rw [HE.out]), hE⟩
  | cons c r =>
    have hix : ∀ w : World, (Instr.index 9 (.string ⟨(c :: r).toArray⟩) (.int .i64 0)).run Tryz.prog w = .ok (.int .u8 (c.toNat : Int)) w := by
      intro w
      rw [run_index_string _ _ _ _ _ Tryz.underlying9, dif_pos ⟨by omega, by rw [hsz]; simp⟩]
      rfl
    have hcl : (c :: r).length = r.length + 1 := rfl
    by_cases h45 : c = 45
    · have he : sgnRd (c :: r) = (-(digR r).1, (digR r).2 && decide (0 < (digR r).1)) := by rw [h45]; rfl
      have h45' : (c.toNat : Int) = 45 := by rw [h45]; rfl
      have hd := fun w' => l01Digits_c r (by simp at hl; omega) w'
      have hb := digR_bd r
      have hx : (⟨(c :: r).toArray⟩ : ByteArray).extract 1 (r.length + 1) = ⟨r.toArray⟩ := by
        rw [ext_eq]; simp
      obtain ⟨⟨n, ok⟩, hq⟩ : ∃ p, digR r = p := ⟨_, rfl⟩
      rw [hq] at hd he hb
      simp only at hb
      have HD := Lib.hid hd
      have HE := Lib.hid he
      have hw : IntKind.i64.wrap (-n) = -n := IntWalk.i64_in _ (by omega)
      clear hd he h45 hq
      cases ok
      · go_enter Tryz.func53, Tryz.ntmps53
        go_wp2_with fail
        refine (HD.out _).mono ?_
        rintro e w2 ⟨rfl, hE⟩
        go_wp2
        go_ret2
        exact ⟨ret_ib (by rw [HE.out]) (by rw [HE.out]; rfl), hE⟩
      · go_enter Tryz.func53, Tryz.ntmps53
        go_wp2_with fail
        refine (HD.out _).mono ?_
        rintro e w2 ⟨rfl, hE⟩
        go_wp2
        go_ret2
        exact ⟨ret_ib (by rw [HE.out]) (by rw [HE.out]; rfl), hE⟩
    · have he : sgnRd (c :: r) = digR (c :: r) := if_neg (by simpa using h45)
      have h45' : ((c.toNat : Int) == 45) = false := by
        have : c.toNat ≠ 45 := fun e => h45 (UInt8.toNat_inj.1 e)
        simp; omega
      have hd := fun w' => l01Digits_c (c :: r) hl w'
      have HD := Lib.hid hd
      have HE := Lib.hid he
      clear hd he h45
      go_enter Tryz.func53, Tryz.ntmps53
      go_wp2_with fail
      refine (HD.out _).mono ?_
      rintro e w2 ⟨rfl, hE⟩
      go_wp2
      go_ret2
      exact ⟨ret_ib (by rw [HE.out]) (by rw [HE.out]), hE⟩
theorem specReadValue_c (l : List UInt8) (hl : l.length ≤ 140737488355328) (w : World) : Calls Tryz.prog 34 #[.string ⟨l.toArray⟩] w fun e w' => e = .returned (.tuple #[.int .i64 (rdV l).1, .bool (rdV l).2]) ∧ Ext w w' := by
  by_cases hdot : l = [46]
  · subst hdot
    have HE := Lib.hid rdV_dot
    go_enter Tryz.func34, Tryz.ntmps34
    go_wp2
    go_ret2
    exact ⟨ret_ib (by rw [HE.out]) (by rw [HE.out]), Ext.refl _⟩
  · have he := numR_sgn l
    rw [← rdV_num hdot] at he
    have hd := fun w' => l01Signed_c l hl w'
    obtain ⟨⟨n, ok⟩, hq⟩ : ∃ p, sgnRd l = p := ⟨_, rfl⟩
    rw [hq] at hd he
    have HD := Lib.hid hd
    have HE := Lib.hid he
    have hdot' : (l == [46]) = false := by simpa using hdot
    clear hd hq he hdot
    cases ok
    · go_enter Tryz.func34, Tryz.ntmps34
      go_wp2_with fail
      refine (HD.out _).mono ?_
      rintro e w2 ⟨rfl, hE⟩
      go_wp2
      go_ret2
      exact ⟨ret_ib (by rw [HE.out]; rfl) (by rw [HE.out]; rfl), hE⟩
    · cases hf : fin n
      · have HF := Lib.hid hf
        clear hf
        go_enter Tryz.func34, Tryz.ntmps34
        go_wp2_with fail
        refine (HD.out _).mono ?_
        rintro e w2 ⟨rfl, hE⟩
        go_wp2_with fail
        refine (asB HF.out (l01Finite_c n _)).mono ?_
        rintro e w3 ⟨rfl, rfl⟩
        go_wp2
        go_ret2
        exact ⟨ret_ib (by rw [HE.out, HF.out]; rfl) (by rw [HE.out, HF.out]; rfl), hE⟩
      · have HF := Lib.hid hf
        clear hf
        go_enter Tryz.func34, Tryz.ntmps34
        go_wp2_with fail
        refine (HD.out _).mono ?_
        rintro e w2 ⟨rfl, hE⟩
        go_wp2_with fail
        refine (asB HF.out (l01Finite_c n _)).mono ?_
        rintro e w3 ⟨rfl, rfl⟩
        go_wp2
        go_ret2
        exact ⟨ret_ib (by rw [HE.out, HF.out]; rfl) (by rw [HE.out, HF.out]; rfl), hE⟩
end Go.Proofs.YtkipbfjkcdccjaaGreatDoor
