/- Contracts of reading a value, the program's side. Conditions: the table of powers and the two sentinels lie in memory. -/
import Derived.Test.YtkipbfjkcdccjaaGreatDoorT1
import Derived.Test.YtkipbfjkcdccjaaGreatDoorT2
namespace Go.Proofs.YtkipbfjkcdccjaaGreatDoor
set_option linter.unusedVariables false
set_option linter.unusedSimpArgs false
open Go.RowKit

theorem var_ext {P : Program} {w w' : World} {n : String} {cs : Array Value} (h : w.var? P n = some cs) (e : Ext w w') : w'.var? P n = some cs := by
  unfold World.var? at h ⊢
  cases hg : P.globalNamed n with
  | none => simp [hg] at h
  | some g =>
    simp only [hg, Option.bind_some] at h ⊢
    have hlt : g < w.heap.size := by
      rcases Nat.lt_or_ge g w.heap.size with h' | h'
      · exact h'
      · simp [Array.getElem?_eq_none h'] at h
    rw [Below.block e _ hlt]
    exact h
/-- the library's two sentinels lie in memory -/
def Sn (w : World) : Prop := (∃ tp p, w.var? Tryz.prog "strconv.ErrSyntax" = some #[.iface tp p]) ∧ (∃ tp p, w.var? Tryz.prog "strconv.ErrRange" = some #[.iface tp p])
theorem Sn.ext {w w' : World} (h : Sn w) (e : Ext w w') : Sn w' := by
  obtain ⟨⟨t1, p1, h1⟩, ⟨t2, p2, h2⟩⟩ := h
  exact ⟨⟨t1, p1, var_ext h1 e⟩, ⟨t2, p2, var_ext h2 e⟩⟩
/-- what the program reads -/
def rnR (l : List UInt8) : Int × Bool := match Lib.parseIntB 64 l with
  | .ok v => if Lib.itoa v == l then (v, true) else (0, false)
  | _ => (0, false)
theorem rnR_num (l : List UInt8) : numR l = if (rnR l).2 && fin (rnR l).1 then ((rnR l).1, true) else (0, false) := by
  unfold rnR
  rcases h : Lib.parseIntB 64 l with v | _ | _
  · rw [numR_parse_ok h]
    cases he : Lib.itoa v == l <;> cases hf : fin v <;> simp at he <;> simp [he, hf]
  · rw [numR_parse_no (fun v e => by rw [h] at e; cases e)]; simp
  · rw [numR_parse_no (fun v e => by rw [h] at e; cases e)]; simp
theorem readNumber_c (l : List UInt8) (hl : l.length ≤ 140737488355328) (w : World) (ht : Tb w) (hs : Sn w) : Calls Tryz.prog 51 #[.string ⟨l.toArray⟩] w fun e w' => e = .returned (.tuple #[.int .i64 (rnR l).1, .bool (rnR l).2]) ∧ Ext w w' := by
  have hsz := size_mk l
  have HT := Lib.hid ht
  obtain ⟨⟨t1, p1, hv1⟩, ⟨t2, p2, hv2⟩⟩ := hs
  rcases h : Lib.parseIntB 64 l with v | _ | _
  · have hb := Lib.parseIntB_bounds h
    have HP := Lib.hid (Tryz.strconv_ParseInt_10_at64_ok ⟨l.toArray⟩ (by rw [hsz]; omega) v h w)
    have hb1 : -9223372036854775808 ≤ v ∧ v ≤ 9223372036854775807 := by
      have e : (2 : Nat) ^ (64 - 1) = 9223372036854775808 := by decide
      rw [e] at hb; omega
    have HD := Lib.hid fun w' (h : Tb w') => decimal_c v hb1.1 hb1.2 w' h
    cases he : Lib.itoa v == l
    · have hR : rnR l = (0, false) := by unfold rnR; rw [h]; simp [he]
      have HR := Lib.hid hR
      clear hb hb1 ht hv1 hv2 h hR hsz
      go_enter Tryz.func51, Tryz.ntmps51
      go_wp2_with fail
      refine HP.out.mono ?_
      rintro e w2 ⟨rfl, hw⟩
      have hE : Ext w w2 := by
        rcases hw with rfl | ⟨t, rfl⟩
        · exact Ext.refl _
        · exact Lib.bytesWorld_below _ _ _
      clear hw
      go_wp2_with fail
      refine (HD.out _ (HT.out.ext hE)).mono ?_
      rintro e w3 ⟨rfl, hE3⟩
      go_wp2
      go_ret2
      exact ⟨ret_ib (by rw [HR.out]) (by rw [HR.out]), hE.trans hE3⟩
    · have hR : rnR l = (v, true) := by unfold rnR; rw [h]; simp [he]
      have HR := Lib.hid hR
      clear hb hb1 ht hv1 hv2 h hR hsz
      go_enter Tryz.func51, Tryz.ntmps51
      go_wp2_with fail
      refine HP.out.mono ?_
      rintro e w2 ⟨rfl, hw⟩
      have hE : Ext w w2 := by
        rcases hw with rfl | ⟨t, rfl⟩
        · exact Ext.refl _
        · exact Lib.bytesWorld_below _ _ _
      clear hw
      go_wp2_with fail
      refine (HD.out _ (HT.out.ext hE)).mono ?_
      rintro e w3 ⟨rfl, hE3⟩
      go_wp2
      go_ret2
      exact ⟨ret_ib (by rw [HR.out]) (by rw [HR.out]), hE.trans hE3⟩
  · have hR : rnR l = (0, false) := by unfold rnR; rw [h]
    have HP := Lib.hid (Tryz.parseInt_bad ⟨l.toArray⟩ (by rw [hsz]; omega) (fun v e => by rw [h] at e; cases e) (fun e => by rw [h] at e; cases e) t1 p1 w hv1)
    have HR := Lib.hid hR
    clear ht hv1 hv2 h hR hsz
    go_enter Tryz.func51, Tryz.ntmps51
    go_wp2_with fail
    refine HP.out.mono ?_
    rintro e w2 ⟨N, rfl, -, -, hE⟩
    go_wp2
    go_ret2
    exact ⟨ret_ib (by rw [HR.out]) (by rw [HR.out]), hE⟩
  · have hR : rnR l = (0, false) := by unfold rnR; rw [h]
    have HP := Lib.hid (Tryz.strconv_ParseInt_10_at64_range_var ⟨l.toArray⟩ (by rw [hsz]; omega) h t2 p2 w hv2)
    have HR := Lib.hid hR
    clear ht hv1 hv2 h hR hsz
    go_enter Tryz.func51, Tryz.ntmps51
    go_wp2_with fail
    refine HP.out.mono ?_
    rintro e w2 ⟨N, rfl, -, -, hE⟩
    go_wp2
    go_ret2
    exact ⟨ret_ib (by rw [HR.out]) (by rw [HR.out]), hE⟩
theorem implReadValue_c (l : List UInt8) (hl : l.length ≤ 140737488355328) (w : World) (ht : Tb w) (hs : Sn w) : Calls Tryz.prog 33 #[.string ⟨l.toArray⟩] w fun e w' => e = .returned (.tuple #[.int .i64 (rdV l).1, .bool (rdV l).2]) ∧ Ext w w' := by
  by_cases hdot : l = [46]
  · subst hdot
    have HE := Lib.hid rdV_dot
    clear ht hs
    go_enter Tryz.func33, Tryz.ntmps33
    go_wp2
    go_ret2
    exact ⟨ret_ib (by rw [HE.out]) (by rw [HE.out]), Ext.refl _⟩
  · have he := rnR_num l
    rw [← rdV_num hdot] at he
    have hd := readNumber_c l hl w ht hs
    obtain ⟨⟨n, ok⟩, hq⟩ : ∃ p, rnR l = p := ⟨_, rfl⟩
    rw [hq] at hd he
    have HD := Lib.hid hd
    have HE := Lib.hid he
    have hdot' : (l == [46]) = false := by simpa using hdot
    clear hd hq he hdot ht hs
    cases ok
    · go_enter Tryz.func33, Tryz.ntmps33
      go_wp2_with fail
      refine HD.out.mono ?_
      rintro e w2 ⟨rfl, hE⟩
      go_wp2
      go_ret2
      exact ⟨ret_ib (by rw [HE.out]; rfl) (by rw [HE.out]; rfl), hE⟩
    · cases hf : fin n
      all_goals
        have HF := Lib.hid hf
        clear hf
        go_enter Tryz.func33, Tryz.ntmps33
        go_wp2_with fail
        refine HD.out.mono ?_
        rintro e w2 ⟨rfl, hE⟩
        go_wp2_with fail
        refine (asB HF.out (isFinite_c n _)).mono ?_
        rintro e w3 ⟨rfl, rfl⟩
        go_wp2
        go_ret2
        exact ⟨ret_ib (by rw [HE.out, HF.out]; rfl) (by rw [HE.out, HF.out]; rfl), hE⟩
end Go.Proofs.YtkipbfjkcdccjaaGreatDoor
