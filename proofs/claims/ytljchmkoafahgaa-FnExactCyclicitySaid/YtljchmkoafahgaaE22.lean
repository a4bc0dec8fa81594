/- Contracts of l06Lengths, l06Period, l06Cyclicity and Cyclicity of the reference. Conditions: the forms of the table and of the path. -/
import Derived.Test.YtljchmkoafahgaaGH
import Derived.Test.YtljchmkoafahgaaK12
import Derived.Deep.CutRange
namespace Go.Proofs.Ytljchmkoafahgaa
set_option linter.unusedVariables false
set_option linter.unusedSimpArgs false
open Go.RowKit

/-- hands back a number of which P holds -/
def GN (w : World) (P : Int → Prop) (e : Ending) (w' : World) : Prop := ∃ g : Int, e = .returned (.int .i64 g) ∧ P g ∧ Ext w w'

set_option maxHeartbeats 4000000 in
set_option maxRecDepth 100000 in
theorem l06Lengths_c {n : Nat} (y : List (List Int)) (hn : y.length = n) (rx : Rect y n n) (hl2 : n ≤ 10) :
    ∀ (d f : Nat) (m : List Nat) (g0 : Int) (B : Nat) (a b : Option Addr) (ca cb : Nat) (w : World), n ≤ d + (m.length + 1) → GOk (ent y) n f m → 0 ≤ g0 ∧ g0 ≤ 10 → MatAt w a y → OwnI w B (.slice b (pathL f m).length cb) (pathL f m) → B ≤ w.heap.size →
    Calls Try.prog 163 #[.slice a y.length ca, .slice b (pathL f m).length cb, .int .i64 g0] w (GN w (LenPost (ent y) n f m g0)) := by
  subst hn
  intro d
  induction d using Nat.strongRecOn with
  | ind d ih =>
  intro f m g0 B a b ca cb w hd hG hg0 hx hy hB
  have hyl := pathL_len f m
  have hp0 := pathL_zero f m
  have hf := (lo_cons.1 hG.lo).1
  have hll := hG.lt_n
  have hml : m.length + 1 ≤ y.length := by have := nodup_len _ _ hG.nd hG.lo; simpa using this
  have hpl : nth (pathL f m) ((pathL f m).length - 1) = (lst f m : Int) := by
    rw [show (pathL f m).length - 1 = m.length by omega]; exact pathL_last f m
  have hxl := hx.len
  obtain ⟨p, o, rfl⟩ := hx.base (by omega)
  obtain ⟨q, o2, c, d1, dd, -⟩ := hx.hdr rx hf (by omega)
  have d2 := dd (lst f m) hll
  clear dd
  rcases hy.form with ⟨h1, h2⟩ | ⟨g, cap, h1, hBg, hg, hle, hmx, hcc, -⟩
  · have := congrArg List.length h2; rw [hyl] at this; simp at this
  simp only [Value.slice.injEq, Option.some.injEq, Addr.mk.injEq, and_true, true_and] at h1
  obtain ⟨rfl, rfl⟩ := h1
  have hyi := hy.ints
  have c0 := hcc 0 (by omega)
  have cl := hcc ((pathL f m).length - 1) (by omega)
  rw [hp0] at c0
  rw [hpl] at cl
  have el : (((pathL f m).length : Int) - 1) = (((pathL f m).length - 1 : Nat) : Int) := by omega
  have hhas := has_path f m
  have HO := Lib.hid hy
  have HX := Lib.hid (And.intro hx rx)
  have HG := Lib.hid hG
  have hIH := fun (d' : Nat) (hd' : d' < d) (v : Nat) (g1 : Int) (h1 : y.length ≤ d' + ((v :: m).length + 1)) (h2 : GOk (ent y) y.length f (v :: m)) => ih d' hd' f (v :: m) g1 B (some ⟨p, o, none⟩)
  simp only [pathL_snoc] at hIH
  have HIH := Lib.hid hIH
  have hposl : 0 < (pathL f m).length := by omega
  have hxl2 : (pathL f m).length ≤ 10 := by omega
  clear ih hIH hx hy rx hcc hp0 hpl
  obtain ⟨xs, hxs⟩ : ∃ xs, pathL f m = xs := ⟨_, rfl⟩
  rw [hxs] at hyi cl el HO HIH hposl hxl2 hhas hyl hle ⊢
  have HHas := Lib.hid hhas
  clear hxs hhas
  have HBd := Lib.hid (And.intro hd (And.intro hml hyl))
  have hml2 : (xs.length : Int) = (m.length : Int) + 1 := by omega
  have hxl3 : 1 ≤ xs.length := hposl
  have HS : Hid ((ent y f (lst f m) = -1000000000000000 → LenUp (ent y) y.length f m (f + 1) g0 g0) ∧ (ent y f (lst f m) ≠ -1000000000000000 → LenUp (ent y) y.length f m (f + 1) g0 (gcdI g0 (xs.length : Nat)))) :=
    ⟨LenUp.start_no, fun h => by rw [hml2]; exact LenUp.start_yes h⟩
  have hgl := gcdI_len (a := g0) (b := (xs.length : Nat)) hg0 (by omega)
  clear hd hml hyl hG hml2
  go_enter Try.func163, Try.ntmps163
  go_wp2_with fail
  go_big_quiet (fail)
  by_cases s4 : ent y f (lst f m) = -1000000000000000
  case' pos =>
    have hst := Lib.hid (HS.out.1 s4)
    have hE0 : Ext w (w.drewN nq) := (Ext.refl w).drewN _
    have hg1 := hg0.1
    have hg2 := hg0.2
    rw [s4] at d2
    clear HS s4 hgl
    go_wp2_with fail
    clear d1 d2 c0 cl el
  case' neg =>
    have hst := Lib.hid (HS.out.2 s4)
    have hs4 : (ent y f (lst f m) != -1000000000000000) = true := by simpa using s4
    have hg1 := hgl.1
    have hg2 := hgl.2
    have hgu : 0 ≤ g0 ∧ g0 ≤ 10 := hg0
    clear HS s4 hgl
    generalize ent y f (lst f m) = z at *
    go_wp2_with fail
    refine (l01Divisor_c g0 (xs.length : Nat) _ (by omega) (by omega)).mono ?_
    rintro e w' ⟨rfl, hq⟩
    have hE0 : Ext w w' := Ext.qt ((Ext.refl w).drewN _) hq
    clear d1 d2 c0 cl el hq hs4
    go_wp2
  all_goals
    go_loopw [9, 2] (fun i s wr => ∃ (v : Nat) (g2 : Int), f < v ∧ v ≤ y.length ∧ i = .int .i64 v ∧ s = .int .i64 g2 ∧ 0 ≤ g2 ∧ g2 ≤ 10 ∧ Ext w wr ∧ Hid (LenUp (ent y) y.length f m v g0 g2)) (fun i _ _ => y.length - (intOf i).toNat)
    case atStart => exact ⟨f + 1, _, by omega, by omega, by go_num, rfl, hg1, hg2, hE0, hst⟩
    case round =>
      obtain ⟨v, g2, hfv, hv, rfl, rfl, hg3, hg4, hE, hrun⟩ := hrel
      clear hE0 hst
      by_cases hlt : v < y.length
      · obtain ⟨q3, o3, c3, e1, ee, -⟩ := HX.out.1.hdr HX.out.2 hlt (by omega)
        have e2 := ee (lst f m) hll
        replace e1 := hE.cell e1
        replace e2 := hE.cell e2
        clear ee
        by_cases s4 : ent y v (lst f m) = -1000000000000000
        · have hnext : Hid (LenUp (ent y) y.length f m (v + 1) g0 g2) := hrun.out.skip (.inr s4)
          rw [s4] at e2
          clear s4 hrun
          go_wp2_with fail
          go_roundw
          case rel => exact ⟨v + 1, g2, by omega, by omega, by go_num, rfl, hg3, hg4, hE, hnext⟩
          case measure => simp [intOf]; omega
        have hs4 : (ent y v (lst f m) == -1000000000000000) = false := by rw [beq_eq_false_iff_ne]; exact s4
        have S4 := Lib.hid s4
        have hhv := HHas.out v
        by_cases hin : v ∈ m
        · have hnext : Hid (LenUp (ent y) y.length f m (v + 1) g0 g2) := hrun.out.skip (.inl hin)
          have hH := fun w' (h : Ext w w') => asB (c := true) (by rw [hhv]; simp [hin]) (l01Has_c (some ⟨g, 0, none⟩) cb xs (v : Int) w' (hyi.mono h))
          have HH := Lib.hid hH
          clear s4 hrun hH hhv hin
          generalize ent y v (lst f m) = z at *
          go_wp2_with fail
          refine (HH.out _ hE).mono ?_
          rintro e w' ⟨rfl, rfl⟩
          go_wp2_with fail
          go_roundw
          case rel => exact ⟨v + 1, g2, by omega, by omega, by go_num, rfl, hg3, hg4, hE, hnext⟩
          case measure => simp [intOf]; omega
        obtain ⟨hG2, -⟩ := HG.out.grow hfv hlt hin s4
        have hH := fun w' (h : Ext w w') => asB (c := false) (by rw [hhv]; simp [hin]; omega) (l01Has_c (some ⟨g, 0, none⟩) cb xs (v : Int) w' (hyi.mono h))
        have HH := Lib.hid hH
        have hd2 : 1 ≤ d := by
          have h1 := nodup_len _ _ hG2.nd hG2.lo
          have := HBd.out.1
          simp only [List.length_cons] at h1
          omega
        have hrec := HIH.out (d - 1) (by omega) v g2 (by have := HBd.out.1; simp only [List.length_cons]; omega) hG2
        have hrec2 := fun b' cb' w' h1 h2 h3 => hrec b' ca cb' w' (by have := HBd.out.1; simp only [List.length_cons]; omega) hG2 ⟨hg3, hg4⟩ h1 h2 h3
        have hl1 : (xs ++ [(v : Int)]).length = xs.length + 1 := by simp
        replace hrec2 := fun b' cb' w' h1 (h2 : OwnI w' B (.slice b' (xs ++ [(v : Int)]).length cb') (xs ++ [(v : Int)])) h3 => hrec2 b' cb' w' h1 h2 h3
        simp only [hl1] at hrec2
        have HR := Lib.hid hrec2
        have HN := Lib.hid (fun g3 (h : LenPost (ent y) y.length f (v :: m) g2 g3) => hrun.out.step h hfv hin s4)
        clear hrec hrec2 hG2 hH hhv hin s4 hd2 HIH hrun
        generalize ent y v (lst f m) = z at *
        go_wp2_with fail
        refine (HH.out _ hE).mono ?_
        rintro e w' ⟨rfl, rfl⟩
        have hBr : B ≤ wr.heap.size := Nat.le_trans hB hE.size
        have hnc : (some ⟨g, 0, none⟩ : Option Addr) = none → cb = 0 := fun h => by cases h
        clear e1 e2
        go_wp2_with fail
        refine (l01Own_c _ _ _ _ (hyi.mono hE) hnc (by omega)).mono ?_
        rintro e w2 ⟨ar, cr, rfl, hO2, hE2⟩
        have hE3 := hE2.alloc (.cells #[.int .i64 (v : Int)] 2)
        have hsz := hE3.size
        go_wp2_with (at_builtin; refine app_i rfl _ _ rfl wr.heap.size _ _ rfl (hO2.ext ((Ext.refl w2).alloc _)) ⟨w2.heap.size, 0, none⟩ 1 (v : Int) rfl (cell_one _ _ _) (by omega) hsz ?_)
        intro v' w' hO4 hg
        have hE4 := app_ext hE3 (hO2.ext ((Ext.refl w2).alloc _)) (Nat.le_refl _) hg
        obtain ⟨a4, c4, rfl, hi4⟩ := hO4.at
        have hO9 := hO4.mono hBr
        rw [hl1] at hO9
        clear hO4 hO2 hi4 hg hsz hE3
        go_wp2_with fail
        rw [hl1]
        refine (HR.out _ _ _ (HX.out.1.mono (hE.trans hE4)) hO9 (Nat.le_trans hBr hE4.size)).mono ?_
        rintro e w5 ⟨g5, rfl, hP5, hE5⟩
        have hEe := hE4.trans hE5
        have hnext := Lib.hid (HN.out g5 hP5)
        have hgb := hP5.1
        clear hP5
        go_wp2
        go_roundw
        case rel => exact ⟨v + 1, g5, by omega, by omega, by go_num, rfl, hgb.1, hgb.2, hE.trans hEe, hnext⟩
        case measure => simp [intOf]; omega
      · obtain rfl : y.length = v := by omega
        have HE := Lib.hid (LenUp.done HG.out hrun.out ⟨hg3, hg4⟩)
        go_wp2
        go_ret
        exact ⟨_, rfl, HE.out, hE⟩
end Go.Proofs.Ytljchmkoafahgaa
