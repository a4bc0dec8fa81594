/- The walk of FnValues. Condition: the code reads. -/
import Derived.Test.YtkfpcbafhgolnaaD3
import Derived.Test.YtkfpcbafhgolnaaP7
import Derived.Test.YtkfpcbafhgolnaaS2
import Derived.Test.YtkfpcbafhgolnaaM1
import Derived.Test.YtkfpcbafhgolnaaM8
namespace Go.Proofs.Ytkfpcbafhgolnaa
set_option linter.unusedVariables false
set_option linter.unusedSimpArgs false
open Go.RowKit

set_option maxRecDepth 100000 in
set_option maxHeartbeats 2000000 in
theorem FnValues_walk (ca : Option Addr) (cc : Nat) (bs : List Int) (w : World) (h : CodeAt w ca bs) :
    Calls Try.prog 3 #[.slice ca bs.length cc] w fun e w' => e = .returned (.bool true) ∧ Ext w w' := by
  go_enter Try.func3, Try.ntmps3
  go_wp2_with fail
  refine (big_c _ _ _ _ (by have := h.1; omega)).mono ?_
  rintro e w' ⟨t, rfl, rfl⟩
  cases t
  · go_wp2_with fail
    refine (DrawProductOf_c _ _ _ _ h).mono ?_
    rintro e w1 ⟨a, b, rfl, ha, hb, hE1⟩
    go_wp2_with fail
    refine (productOf_c _ _ _).mono ?_; rintro e w' ⟨rfl, rfl⟩
    go_wp2_with fail
    refine (sProductOf_c _ _ _).mono ?_; rintro e w' ⟨rfl, rfl⟩
    go_wp2_with fail
    refine (DrawSumOf_c _ _ _ _ (h.mono hE1)).mono ?_
    rintro e w2 ⟨al, cl, xs, rfl, hlx, hO, hE2⟩
    have hE := hE1.trans hE2
    have hI := hO.ints
    have HI := Lib.hid hI
    clear hI hO hE1 hE2
    go_wp2_with fail
    refine (implSumOf_c _ _ _ _ HI.out).mono ?_; rintro e w' ⟨rfl, rfl⟩
    go_wp2_with fail
    refine (sSumOf_c _ _ _ _ HI.out).mono ?_; rintro e w' ⟨rfl, rfl⟩
    have n1 : ((prodV a b).2 != (prodV a b).2) = false := by simp
    have n2 : ((prodV a b).1 != (prodV a b).1) = false := by simp
    have n3 : ((sumV xs).2 != (sumV xs).2) = false := by simp
    have n4 : ((sumV xs).1 != (sumV xs).1) = false := by simp
    cases hva : isVal a
    · have Hva := Lib.hid hva
      clear hva
      go_wp2_with fail
      refine (asB Hva.out (isValue_c _ _)).mono ?_; rintro e w' ⟨rfl, rfl⟩
      go_wp2_with fail
      refine (asB Hva.out (sIsValue_c _ _)).mono ?_; rintro e w' ⟨rfl, rfl⟩
      by_cases hs : (sumV xs).2 = 0
      · have hs' : ((sumV xs).2 != 0) = false := by rw [hs]; rfl
        clear hs
        go_wp2_with fail
        refine (asB Hva.out (sIsValue_c _ _)).mono ?_; rintro e w' ⟨rfl, rfl⟩
        go_wp2
        go_ret
        exact ⟨rfl, hE⟩
      · have hs' : ((sumV xs).2 != 0) = true := by simpa using hs
        clear hs
        go_wp2
        go_ret
        exact ⟨rfl, hE⟩
    · have Hva := Lib.hid hva
      clear hva
      go_wp2_with fail
      refine (asB Hva.out (isValue_c _ _)).mono ?_; rintro e w' ⟨rfl, rfl⟩
      go_wp2_with fail
      refine (asB Hva.out (sIsValue_c _ _)).mono ?_; rintro e w' ⟨rfl, rfl⟩
      by_cases hs : (sumV xs).2 = 0
      · have hs' : ((sumV xs).2 != 0) = false := by rw [hs]; rfl
        have Hs := Lib.hid hs
        clear hs
        have hax : allV xs = true := by
          have hs := Hs.out
          unfold sumV at hs
          split at hs
          · simp at hs
          · split at hs
            · rename_i h1 h2; exact h2
            · simp at hs
        have HA := Lib.hid hax
        clear hax
        go_wp2_with fail
        refine (asB Hva.out (sIsValue_c _ _)).mono ?_; rintro e w' ⟨rfl, rfl⟩
        have hO0 := OwnI.empty w2 w2.heap.size (Nat.le_refl _)
        have hE0 := (Ext.refl w2).alloc (.cells #[] 2)
        go_wp2
        clear n1 n2 n3 n4
        go_loopw [14, 15] (fun s i wr => ∃ k : Nat, k ≤ xs.length ∧ i = .int .i64 k ∧ Ext w2 wr ∧ OwnI wr w2.heap.size s (eachV a xs k) ∧ Hid (∀ j, j < k → (prodV a (nth xs j)).2 = 0)) (fun _ i _ => xs.length - (intOf i).toNat)
        case atStart => exact ⟨0, Nat.zero_le _, rfl, hE0, hO0, fun j hj => absurd hj (Nat.not_lt_zero _)⟩
        case round =>
          obtain ⟨k, hk, rfl, hE3, hO3, hj⟩ := hrel
          clear hE0 hO0
          by_cases hlt : k < xs.length
          · obtain ⟨p, o, rfl⟩ := IntsAt.base HI.out (by omega)
            have c1 := hE3.cell (IntsAt.cell HI.out hlt)
            go_wp2_with fail
            refine (productOf_c _ _ _).mono ?_; rintro e w' ⟨rfl, rfl⟩
            by_cases hc : (prodV a (nth xs k)).2 = 0
            · have hc' : ((prodV a (nth xs k)).2 != 0) = false := by rw [hc]; rfl
              have Hc := Lib.hid hc
              have e : eachV a xs (k + 1) = eachV a xs k ++ [(prodV a (nth xs k)).1] := mkRow_succ _ _
              have He := Lib.hid e
              have hl : (eachV a xs k).length ≤ 1000000000 := by unfold eachV; rw [mkRow_len]; omega
              clear hc e c1
              generalize (prodV a (nth xs k)).1 = y at *
              have hsz := (hE3.alloc (.cells #[.int .i64 y] 2)).size
              go_wp2_with (at_builtin; refine app_i rfl _ _ rfl w2.heap.size _ _ rfl (hO3.ext ((Ext.refl wr).alloc _)) ⟨wr.heap.size, 0, none⟩ 1 y rfl (cell_one _ _ _) hl hsz ?_)
              intro v' w' hO4 hg
              go_wp2
              go_roundw
              case rel => exact ⟨k + 1, by omega, by go_num, grown_i hE3 hO3 (Nat.le_refl _) hg, by rw [He.out]; exact hO4, fun j h => by
                by_cases e : j = k
                · subst e; exact Hc.out
                · exact hj.out j (by omega)⟩
              case measure => simp [intOf]; omega
            · have h3 := prodV_code Hva.out (allV_iff.1 HA.out k hlt) hc
              rw [h3]
              clear hc h3 c1
              go_wp2
              go_ret
              exact ⟨rfl, hE.trans hE3⟩
          · obtain rfl : k = xs.length := by omega
            obtain ⟨v1, v2, v3⟩ := values_law Hva.out Hs.out hj.out
            obtain ⟨z, hz⟩ : ∃ z, (sumV (eachV a xs xs.length)).1 = z := ⟨_, rfl⟩
            have q1 : prodV a (sumV xs).1 = (z, 0) := Prod.ext (by rw [v3, hz]) v1
            have q2 : sumV (eachV a xs xs.length) = (z, 0) := Prod.ext hz v2
            have Q := Lib.hid (And.intro q1 (And.intro q2 (And.intro (values_unit Hva.out) (values_bottom Hva.out))))
            obtain ⟨ae, ce, rfl, hIe⟩ := hO3.at
            have HIe := Lib.hid hIe
            clear v1 v2 v3 hz q1 q2 hIe hO3
            go_wp2_with fail
            refine (productOf_c _ _ _).mono ?_; rintro e w' ⟨rfl, rfl⟩
            rw [Q.out.1]
            go_wp2_with fail
            refine (implSumOf_c _ _ _ _ HIe.out).mono ?_; rintro e w' ⟨rfl, rfl⟩
            rw [Q.out.2.1]
            go_wp2_with fail
            refine (productOf_c _ _ _).mono ?_; rintro e w' ⟨rfl, rfl⟩
            rw [Q.out.2.2.1]
            have hlit := ints_lit wr [a, -1000000000000000] (by simp)
            have hEl := (hE.trans hE3).alloc (.cells #[.int .i64 a, .int .i64 (-1000000000000000)] 2)
            have HL := Lib.hid hlit
            clear hlit
            go_wp2_with fail
            refine (implSumOf_c _ _ [a, -1000000000000000] _ HL.out).mono ?_; rintro e w' ⟨rfl, rfl⟩
            rw [Q.out.2.2.2]
            go_wp2
            go_ret
            exact ⟨rfl, hEl⟩
      · have hs' : ((sumV xs).2 != 0) = true := by simpa using hs
        clear hs
        go_wp2
        go_ret
        exact ⟨rfl, hE⟩
  · go_wp2
    go_ret
    exact ⟨rfl, Ext.refl _⟩
end Go.Proofs.Ytkfpcbafhgolnaa
