/- The walk of the law over the texts of drawn values. What the library reads lies in memory. -/
import Derived.Test.YtkipbfjkcdccjaaDoorD18
import Derived.Test.YtkipbfjkcdccjaaDoorT3
namespace Go.Proofs.YtkipbfjkcdccjaaDoor
set_option linter.unusedVariables false
set_option linter.unusedSimpArgs false
open Go.RowKit

theorem rdV_cases (a : Int) : ∃ (T : List UInt8) (n1 : Int) (ok1 : Bool), valT a = T ∧ rdV T = (n1, ok1) ∧ ((ok1 = true ∧ n1 = a ∧ T ≠ []) ∨ (ok1 = false ∧ T = [])) := by
  cases h : isVal a
  · exact ⟨[], 0, false, valT_no h, rdV_nil, .inr ⟨rfl, rfl⟩⟩
  · exact ⟨valT a, a, true, rfl, rdV_valT h, .inl ⟨rfl, rfl, valT_ne h⟩⟩
theorem rdV_back (l : List UInt8) : ∃ (n : Int) (ok : Bool), rdV l = (n, ok) ∧ (ok = true → valT n = l) := by
  refine ⟨(rdV l).1, (rdV l).2, rfl, fun h => (rdV_ok h).2⟩
set_option maxHeartbeats 2000000 in
theorem FnValueTexts_walk (ca : Option Addr) (cc : Nat) (bs : List Int) {w : World} (h : CodeAt w ca bs) (ht : Tb w) (hn : Sn w) :
    Calls Tryd.prog 7 #[.slice ca bs.length cc] w fun e w' => e = .returned (.bool true) ∧ Ext w w' := by
  have HT := Lib.hid (And.intro ht hn)
  have HC := Lib.hid h
  have hbl := h.1
  clear ht hn h
  go_enter Tryd.func7, Tryd.ntmps7
  go_wp2_with fail
  refine (big_c _ _ _ _ (by omega)).mono ?_
  rintro e w' ⟨t, rfl, rfl⟩
  cases t
  · go_wp2_with fail
    refine (DrawValueText_c _ _ _ _ HC.out).mono ?_
    rintro e w1 ⟨a, rfl, ha, hE1⟩
    obtain ⟨T, n1, ok1, hT, hr1, hcs⟩ := rdV_cases a
    have HVi := Lib.hid fun w h => implValueText_c a w h
    have HVs := Lib.hid fun w => specValueText_c a w
    rw [hT] at HVi HVs
    have hTl : T.length ≤ 140737488355328 := by have := valT_len a; rw [hT] at this; omega
    have HR1 := Lib.hid fun w h k => implReadValue_c T hTl w h k
    rw [hr1] at HR1
    clear hr1 hT
    rcases hcs with ⟨rfl, rfl, hTn⟩ | ⟨rfl, rfl⟩
    · have t1 : (T == []) = false := by simpa using hTn
      have t2 : (T != []) = true := by simpa using hTn
      have t3 : T.isEmpty = false := by simpa using hTn
      clear hTn
      go_wp2_with fail
      refine (HVi.out _ (HT.out.1.ext hE1)).mono ?_
      rintro e w2 ⟨rfl, hE2⟩
      have hE2' := hE1.trans hE2
      go_wp2_with fail
      refine (HR1.out _ (HT.out.1.ext hE2') (HT.out.2.ext hE2')).mono ?_
      rintro e w3 ⟨rfl, hE3⟩
      have hE3' := hE2'.trans hE3
      go_wp2_with fail
      refine (DrawReadValue_c _ _ _ _ (HC.out.mono hE3')).mono ?_
      rintro e w4 ⟨l, rfl, hl, hE4⟩
      have hE4' := hE3'.trans hE4
      clear hE1 hE2 hE3 hE4 hE2' hE3' HR1 HVi
      obtain ⟨n, ok, hr2, hbk⟩ := rdV_back l
      have HR2 := Lib.hid fun w h k => implReadValue_c l (by omega) w h k
      have HS2 := Lib.hid fun w => specReadValue_c l (by omega) w
      have HV2 := Lib.hid fun w h => implValueText_c n w h
      rw [hr2] at HR2 HS2
      clear hr2
      cases ok
      · clear hbk HV2
        go_wp2_with fail
        refine (HR2.out _ (HT.out.1.ext hE4') (HT.out.2.ext hE4')).mono ?_
        rintro e w5 ⟨rfl, hE5⟩
        have hE5' := hE4'.trans hE5
        go_wp2_with fail
        refine (HS2.out _).mono ?_
        rintro e w6 ⟨rfl, hE6⟩
        have hE6' := hE5'.trans hE6
        go_wp2_with fail
        refine (HVs.out _).mono ?_
        rintro e w7 ⟨rfl, hE7⟩
        go_wp2
        go_ret
        exact ⟨rfl, hE6'.trans hE7⟩
      · rw [hbk rfl] at HV2
        clear hbk
        go_wp2_with fail
        refine (HR2.out _ (HT.out.1.ext hE4') (HT.out.2.ext hE4')).mono ?_
        rintro e w5 ⟨rfl, hE5⟩
        have hE5' := hE4'.trans hE5
        go_wp2_with fail
        refine (HS2.out _).mono ?_
        rintro e w6 ⟨rfl, hE6⟩
        have hE6' := hE5'.trans hE6
        go_wp2_with fail
        refine (HVs.out _).mono ?_
        rintro e w7 ⟨rfl, hE7⟩
        have hE7' := hE6'.trans hE7
        clear hE4' hE5 hE6 hE7 hE5' hE6'
        go_wp2_with fail
        refine (HV2.out _ (HT.out.1.ext hE7')).mono ?_
        rintro e w8 ⟨rfl, hE8⟩
        go_wp2
        go_ret
        exact ⟨rfl, hE7'.trans hE8⟩
    · go_wp2_with fail
      refine (HVi.out _ (HT.out.1.ext hE1)).mono ?_
      rintro e w2 ⟨rfl, hE2⟩
      have hE2' := hE1.trans hE2
      go_wp2_with fail
      refine (HR1.out _ (HT.out.1.ext hE2') (HT.out.2.ext hE2')).mono ?_
      rintro e w3 ⟨rfl, hE3⟩
      have hE3' := hE2'.trans hE3
      go_wp2_with fail
      refine (DrawReadValue_c _ _ _ _ (HC.out.mono hE3')).mono ?_
      rintro e w4 ⟨l, rfl, hl, hE4⟩
      have hE4' := hE3'.trans hE4
      clear hE1 hE2 hE3 hE4 hE2' hE3' HR1 HVi
      obtain ⟨n, ok, hr2, hbk⟩ := rdV_back l
      have HR2 := Lib.hid fun w h k => implReadValue_c l (by omega) w h k
      have HS2 := Lib.hid fun w => specReadValue_c l (by omega) w
      have HV2 := Lib.hid fun w h => implValueText_c n w h
      rw [hr2] at HR2 HS2
      clear hr2
      cases ok
      · clear hbk HV2
        go_wp2_with fail
        refine (HR2.out _ (HT.out.1.ext hE4') (HT.out.2.ext hE4')).mono ?_
        rintro e w5 ⟨rfl, hE5⟩
        have hE5' := hE4'.trans hE5
        go_wp2_with fail
        refine (HS2.out _).mono ?_
        rintro e w6 ⟨rfl, hE6⟩
        have hE6' := hE5'.trans hE6
        go_wp2_with fail
        refine (HVs.out _).mono ?_
        rintro e w7 ⟨rfl, hE7⟩
        go_wp2
        go_ret
        exact ⟨rfl, hE6'.trans hE7⟩
      · rw [hbk rfl] at HV2
        clear hbk
        go_wp2_with fail
        refine (HR2.out _ (HT.out.1.ext hE4') (HT.out.2.ext hE4')).mono ?_
        rintro e w5 ⟨rfl, hE5⟩
        have hE5' := hE4'.trans hE5
        go_wp2_with fail
        refine (HS2.out _).mono ?_
        rintro e w6 ⟨rfl, hE6⟩
        have hE6' := hE5'.trans hE6
        go_wp2_with fail
        refine (HVs.out _).mono ?_
        rintro e w7 ⟨rfl, hE7⟩
        have hE7' := hE6'.trans hE7
        clear hE4' hE5 hE6 hE7 hE5' hE6'
        go_wp2_with fail
        refine (HV2.out _ (HT.out.1.ext hE7')).mono ?_
        rintro e w8 ⟨rfl, hE8⟩
        go_wp2
        go_ret
        exact ⟨rfl, hE7'.trans hE8⟩
  · go_wp2
    go_ret
    exact ⟨rfl, Ext.refl _⟩
end Go.Proofs.YtkipbfjkcdccjaaDoor
