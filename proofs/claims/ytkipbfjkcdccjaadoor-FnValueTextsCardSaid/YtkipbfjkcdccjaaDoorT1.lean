/- Contracts of the texts of numbers and values. Conditions: the table of powers lies in memory. -/
import Derived.Test.YtkipbfjkcdccjaaDoorShelf
import Derived.Test.YtkipbfjkcdccjaaDoorT6
import Derived.Laws.IdiomStrings
import Derived.Deep.RegionLaw
import Derived.Deep.RegionWith
import Derived.Lib.ItoaNum
namespace Go.Proofs.YtkipbfjkcdccjaaDoor
set_option linter.unusedVariables false
set_option linter.unusedSimpArgs false
open Go.RowKit

/-- the library's table of powers lies in memory -/
def Tb (w : World) : Prop := Lib.TabIs Tryd.prog w "internal/strconv.uint64pow10" .u64 Lib.pow10Tab
theorem gTb : Tryd.prog.globalNamed "internal/strconv.uint64pow10" = some 5 := by kernel_rfl
theorem Tb.lt {w : World} (h : Tb w) : 5 < w.heap.size := by
  have h1 := World.var?_cell gTb h 0
  have h2 := World.block_lt_of_cell? w ⟨5, 0, none⟩ (h1.trans (rfl : ((Lib.pow10Tab.map fun z => Value.int .u64 z).toArray)[0]? = some (.int .u64 1)))
  exact h2
theorem Tb.ext {w w' : World} (h : Tb w) (e : Ext w w') : Tb w' := by
  have hv : w.var? Tryd.prog "internal/strconv.uint64pow10" = some (Lib.pow10Tab.map fun z => Value.int .u64 z).toArray := h
  unfold World.var? at hv
  show w'.var? Tryd.prog "internal/strconv.uint64pow10" = _
  unfold World.var?
  simp only [gTb, Option.bind_some] at hv ⊢
  rw [Below.block e _ h.lt]
  exact hv
theorem grow_ext (w : World) (os : Array Obj) : Ext w (Sort.grow w os) := by
  refine ⟨rfl, rfl, rfl, by simp [Sort.grow], fun k hk => ?_⟩
  show (w.heap ++ os)[k]? = w.heap[k]?
  rw [Array.getElem?_append_left hk]
theorem decimal_c (n : Int) (h0 : -9223372036854775808 ≤ n) (h1 : n ≤ 9223372036854775807) (w : World) (ht : Tb w) : Calls Tryd.prog 56 #[.int .i64 n] w fun e w' => e = .returned (.string ⟨(Lib.itoa n).toArray⟩) ∧ Ext w w' := by
  have hc := fun w' (h : Tb w') => Tryd.strconv_FormatInt_10 n h0 h1 w' h
  have HC := Lib.hid hc
  have HT := Lib.hid ht
  clear hc ht
  go_enter Tryd.func56, Tryd.ntmps56
  go_wp2_with fail
  refine (HC.out _ HT.out).mono ?_
  rintro e w2 ⟨rfl, k, os, rfl⟩
  go_wp2
  go_ret
  exact ⟨rfl, ((Ext.refl w).drewN k).trans (grow_ext _ os)⟩
theorem valueText_c (n : Int) (hn : isVal n = true) (w : World) (ht : Tb w) : Calls Tryd.prog 36 #[.int .i64 n] w fun e w' => e = .returned (.string ⟨(valT n).toArray⟩) ∧ Ext w w' := by
  by_cases h : n = -1000000000000000
  · have e : valT n = [46] := by unfold valT; rw [if_pos hn, if_pos h]
    rw [e]
    subst h
    clear ht
    go_enter Tryd.func36, Tryd.ntmps36
    go_wp2
    go_ret
    exact ⟨rfl, Ext.refl _⟩
  · have e : valT n = Lib.itoa n := by unfold valT; rw [if_pos hn, if_neg h]
    rw [e]
    have h' : (n == -1000000000000000) = false := by simpa using h
    have hb := (isVal_iff.1 hn).resolve_left h
    have hd := fun w' (h : Tb w') => decimal_c n (by omega) (by omega) w' h
    have HD := Lib.hid hd
    have HT := Lib.hid ht
    clear h hn hd ht
    go_enter Tryd.func36, Tryd.ntmps36
    go_wp2_with fail
    refine (HD.out _ HT.out).mono ?_
    rintro e w2 ⟨rfl, hE⟩
    go_wp2
    go_ret
    exact ⟨rfl, hE⟩
theorem implValueText_c (n : Int) (w : World) (ht : Tb w) : Calls Tryd.prog 14 #[.int .i64 n] w fun e w' => e = .returned (.string ⟨(valT n).toArray⟩) ∧ Ext w w' := by
  have HT := Lib.hid ht
  clear ht
  cases h : isVal n
  · have e : valT n = [] := by unfold valT; rw [h]; rfl
    rw [e]
    go_enter Tryd.func14, Tryd.ntmps14
    go_wp2_with fail
    refine (asB h (isValue_c n _)).mono ?_
    rintro e w2 ⟨rfl, rfl⟩
    go_wp2
    go_ret
    exact ⟨rfl, Ext.refl _⟩
  · go_enter Tryd.func14, Tryd.ntmps14
    go_wp2_with fail
    refine (asB h (isValue_c n _)).mono ?_
    rintro e w2 ⟨rfl, rfl⟩
    go_wp2_with fail
    refine (valueText_c n h _ HT.out).mono ?_
    rintro e w2 ⟨rfl, hE⟩
    go_wp2
    go_ret
    exact ⟨rfl, hE⟩
theorem FnExactValueText_walk (n : Int) (_ : -9223372036854775808 ≤ n ∧ n ≤ 9223372036854775807) {w : World} (ht : Tb w) : Calls Tryd.prog 4 #[.int .i64 n] w fun e w' => e = .returned (.bool true) ∧ Ext w w' := by
  have HT := Lib.hid ht
  clear ht
  go_enter Tryd.func4, Tryd.ntmps4
  go_wp2_with fail
  refine (specValueText_c n _).mono ?_
  rintro e w2 ⟨rfl, hE⟩
  go_wp2_with fail
  refine (implValueText_c n _ (HT.out.ext hE)).mono ?_
  rintro e w3 ⟨rfl, hE3⟩
  go_wp2
  go_ret
  exact ⟨rfl, hE.trans hE3⟩
end Go.Proofs.YtkipbfjkcdccjaaDoor
