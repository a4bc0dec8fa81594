/- Contracts of the search for cycles: l03Grow, l03Over. Conditions: the forms of the table and of the path. -/
import Derived.Test.YtljchmkoafahgaaK9
import Derived.Test.YtljchmkoafahgaaM15
import Derived.Test.YtljchmkoafahgaaE10
import Derived.Test.YtljchmkoafahgaaE12
import Derived.Test.YtljchmkoafahgaaM11
import Derived.Deep.CutRange
namespace Go.Proofs.Ytljchmkoafahgaa
set_option linter.unusedVariables false
set_option linter.unusedSimpArgs false
open Go.RowKit

theorem keepR1g {W w' : World} {p q : Addr} {x y : Value} (c0 : W.cell? p = some x) (c1 : W.cell? q = some y) (h : Ext W w') : Ext W w' ∧ w'.cell? p = some x ∧ w'.cell? q = some y := ⟨h, h.cell c0, h.cell c1⟩
/-- hands back a list of which P holds, in memory from block B on -/
def GP (B : Nat) (w : World) (P : List Int → Prop) (e : Ending) (w' : World) : Prop := ∃ b c out, e = .returned (.slice b (out : List Int).length c) ∧ OwnI w' B (.slice b out.length c) out ∧ P out ∧ Ext w w'
theorem app_ext {w0 w w' : World} {v : Value} {xs : List Int} {B : Nat} (hE : Ext w0 w) (hO : OwnI w B v xs) (hB : w0.heap.size ≤ B) (hg : w.grownBy w' v.ownBlock) : Ext w0 w' :=
  hE.grown hg fun k hk => Nat.le_trans hB (hO.lt hk).1

set_option maxHeartbeats 4000000 in
set_option maxRecDepth 100000 in
theorem l03Grow_c {n : Nat} (y : List (List Int)) (hn : y.length = n) (hY : YOk y n) (over : Int) (ho : -1000000000000000 ≤ over ∧ over ≤ 1000000000000000) :
    ∀ (d f : Nat) (m : List Nat) (B : Nat) (a b : Option Addr) (ca cb : Nat) (w : World), n ≤ d + (m.length + 1) → GOk (ent y) n f m → MatAt w a y → OwnI w B (.slice b (pathL f m).length cb) (pathL f m) → B ≤ w.heap.size →
    Calls Try.prog 151 #[.slice a y.length ca, .slice b (pathL f m).length cb, .int .i64 (fw (ent y) (m ++ [f])), .int .i64 over] w (GP B w (GrowPost (ent y) n f m over)) := by
  subst hn
  intro d
  induction d using Nat.strongRecOn with
  | ind d ih =>
  intro f m B a b ca cb w hd hG hx hy hB
  have hwb := hG.bd hY
  obtain ⟨rx, hl1, hl2, hbd⟩ := hY
  have hyl := pathL_len f m
  have hp0 := pathL_zero f m
  have hf := (lo_cons.1 hG.lo).1
  have hll := hG.lt_n
  have hml : m.length + 1 ≤ y.length := by have := nodup_len _ _ hG.nd hG.lo; simpa using this
  have hpl : nth (pathL f m) ((pathL f m).length - 1) = (lst f m : Int) := by
    rw [show (pathL f m).length - 1 = m.length by omega]; exact pathL_last f m
  have hxl := hx.len
  obtain ⟨p, o, rfl⟩ := hx.base (by omega)
  obtain ⟨q, o2, c, d1, dd, -⟩ := hx.hdr rx hf (by omega)
  have d2 := dd (lst f m) hll
  clear dd
  rcases hy.form with ⟨h1, h2⟩ | ⟨g, cap, h1, hBg, hg, hle, hmx, hcc, -⟩
  · have := congrArg List.length h2; rw [hyl] at this; simp at this
  simp only [Value.slice.injEq, Option.some.injEq, Addr.mk.injEq, and_true, true_and] at h1
  obtain ⟨rfl, rfl⟩ := h1
  have hyi := hy.ints
  have c0 := hcc 0 (by omega)
  have cl := hcc ((pathL f m).length - 1) (by omega)
  rw [hp0] at c0
  rw [hpl] at cl
  have el : (((pathL f m).length : Int) - 1) = (((pathL f m).length - 1 : Nat) : Int) := by omega
  have hhas := has_path f m
  have HO := Lib.hid hy
  have HX := Lib.hid (And.intro hx (And.intro rx hbd))
  have HG := Lib.hid hG
  have hIH := fun (d' : Nat) (hd' : d' < d) (v : Nat) (h1 : y.length ≤ d' + ((v :: m).length + 1)) (h2 : GOk (ent y) y.length f (v :: m)) => ih d' hd' f (v :: m) B (some ⟨p, o, none⟩)
  simp only [pathL_snoc] at hIH
  have HIH := Lib.hid hIH
  have hposl : 0 < (pathL f m).length := by omega
  have hxl2 : (pathL f m).length ≤ 10 := by omega
  have hclose := fun h => hG.close (A := ent y) (n := y.length) h
  have HC := Lib.hid hclose
  clear ih hIH hx hy rx hbd hcc hp0 hpl hclose
  obtain ⟨xs, hxs⟩ : ∃ xs, pathL f m = xs := ⟨_, rfl⟩
  rw [hxs] at hyi cl el HO HIH hposl hxl2 hhas hyl hle ⊢
  have HXs := Lib.hid hxs
  have HHas := Lib.hid hhas
  clear hxs hhas
  have HBd := Lib.hid (And.intro hd (And.intro hml hyl))
  clear hd hml hyl hG
  by_cases hc : ent y f (lst f m) ≠ -1000000000000000 ∧ over < fw (ent y) (m ++ [f]) + ent y f (lst f m)
  · -- the path is a cycle that is wanted
    have hz := HX.out.2.2 _ _ hc.1
    have hs4 : (ent y f (lst f m) != -1000000000000000) = true := by simpa using hc.1
    have hw1 : IntKind.i64.wrap (fw (ent y) (m ++ [f]) + ent y f (lst f m)) = fw (ent y) (m ++ [f]) + ent y f (lst f m) := IntWalk.i64_in _ (by omega)
    have hov := hc.2
    have HF := Lib.hid (show Found (ent y) y.length over xs from ⟨f, m, HXs.out.symm, (HC.out hc.1).1, by rw [(HC.out hc.1).2]; exact hc.2⟩)
    clear hc
    generalize ent y f (lst f m) = z at *
    generalize fw (ent y) (m ++ [f]) = wt at *
    generalize lst f m = l at *
    go_enter Try.func151, Try.ntmps151
    go_wp2_with fail
    go_big_quiet (fail)
    go_wp2
    go_ret
    exact ⟨_, _, xs, rfl, HO.out.ext ((Ext.refl w).drewN _), .inr HF.out, (Ext.refl w).drewN _⟩
  · have h0 : ent y f (lst f m) ≠ -1000000000000000 → fw (ent y) (m ++ [f]) + ent y f (lst f m) ≤ over := fun h => Classical.byContradiction fun h2 => hc ⟨h, by omega⟩
    have HB0 := Lib.hid (fun h1 => beyond_of (n := y.length) HG.out h0 h1)
    clear hc
    go_enter Try.func151, Try.ntmps151
    go_wp2_with fail
    go_big_quiet (fail)
    go_upto_region 2 with fail
    go_cut [42] from 22 to 42 (fun s wx => s = .bool false ∧ Qt w wx)
    case first =>
      by_cases s4 : ent y f (lst f m) = -1000000000000000
      · rw [s4] at d2
        go_wp2_with fail
        go_meet
        exact ⟨rfl, (Qt.refl w).drewN _⟩
      · have hz := HX.out.2.2 _ _ s4
        have hs4 : (ent y f (lst f m) != -1000000000000000) = true := by simpa using s4
        have hov := h0 s4
        generalize ent y f (lst f m) = z at *
        generalize fw (ent y) (m ++ [f]) = wt at *
        have hw1 : IntKind.i64.wrap (wt + z) = wt + z := IntWalk.i64_in _ (by omega)
        go_wp2_with fail
        go_meet
        exact ⟨by rw [decide_eq_false (by omega)], (Qt.refl w).drewN _⟩
    case rest =>
    obtain ⟨rfl, hq⟩ := hcut
    have hqe := hq.ext
    have hE0 := Ext.qt (Ext.refl w) hq
    clear d1 d2 c0 cl el h0 hq
    go_wp2
    go_loopw [11] (fun i wr => ∃ v : Nat, f < v ∧ v ≤ y.length ∧ i = .int .i64 v ∧ Ext w wr ∧ Hid (∀ u, f < u → u < v → u ∉ m → ent y u (lst f m) ≠ -1000000000000000 → Beyond (ent y) y.length f (u :: m) over)) (fun i _ => y.length - (intOf i).toNat)
    case atStart => exact ⟨f + 1, by omega, by omega, by go_num, hE0, fun u h1 h2 => by omega⟩
    case round =>
      obtain ⟨v, hfv, hv, rfl, hE, hrun⟩ := hrel
      clear hE0
      by_cases hlt : v < y.length
      · obtain ⟨q3, o3, c3, e1, ee, -⟩ := HX.out.1.hdr HX.out.2.1 hlt (by omega)
        have e2 := ee (lst f m) hll
        replace e1 := hE.cell e1
        replace e2 := hE.cell e2
        clear ee
        by_cases s4 : ent y v (lst f m) = -1000000000000000
        · have hnext : Hid (∀ u, f < u → u < v + 1 → u ∉ m → ent y u (lst f m) ≠ -1000000000000000 → Beyond (ent y) y.length f (u :: m) over) := fun u h1 h2 h3 h4 => by
            by_cases e : u = v
            · subst e; exact absurd s4 h4
            · exact hrun.out u h1 (by omega) h3 h4
          rw [s4] at e2
          clear s4 hrun
          go_wp2_with fail
          go_roundw
          case rel => exact ⟨v + 1, by omega, by omega, by go_num, hE, hnext⟩
          case measure => simp [intOf]; omega
        have hs4 : (ent y v (lst f m) == -1000000000000000) = false := by rw [beq_eq_false_iff_ne]; exact s4
        have S4 := Lib.hid s4
        have hz := HX.out.2.2 _ _ s4
        have hhv := HHas.out v
        by_cases hin : v ∈ m
        · have hnext : Hid (∀ u, f < u → u < v + 1 → u ∉ m → ent y u (lst f m) ≠ -1000000000000000 → Beyond (ent y) y.length f (u :: m) over) := fun u h1 h2 h3 h4 => by
            by_cases e : u = v
            · subst e; exact absurd hin h3
            · exact hrun.out u h1 (by omega) h3 h4
          have hH := fun w' (h : Ext w w') => asB (c := true) (by rw [hhv]; simp [hin]) (l01Has_c (some ⟨g, 0, none⟩) cb xs (v : Int) w' (hyi.mono h))
          have HH := Lib.hid hH
          clear s4 hrun hH hhv hin
          generalize ent y v (lst f m) = z at *
          go_wp2_with fail
          refine (HH.out _ hE).mono ?_
          rintro e w' ⟨rfl, rfl⟩
          go_wp2_with fail
          go_roundw
          case rel => exact ⟨v + 1, by omega, by omega, by go_num, hE, hnext⟩
          case measure => simp [intOf]; omega
        obtain ⟨hG2, hw2⟩ := HG.out.grow hfv hlt hin s4
        have hH := fun w' (h : Ext w w') => asB (c := false) (by rw [hhv]; simp [hin]; omega) (l01Has_c (some ⟨g, 0, none⟩) cb xs (v : Int) w' (hyi.mono h))
        have HH := Lib.hid hH
        have hd2 : 1 ≤ d := by
          have h1 := nodup_len _ _ hG2.nd hG2.lo
          have := HBd.out.1
          simp only [List.length_cons] at h1
          omega
        have hrec := HIH.out (d - 1) (by omega) v (by have := HBd.out.1; simp only [List.length_cons]; omega) hG2
        rw [hw2] at hrec
        have hrec2 := fun b' cb' w' h1 h2 h3 => hrec b' ca cb' w' (by have := HBd.out.1; simp only [List.length_cons]; omega) hG2 h1 h2 h3
        have hl1 : (xs ++ [(v : Int)]).length = xs.length + 1 := by simp
        replace hrec2 := fun b' cb' w' h1 (h2 : OwnI w' B (.slice b' (xs ++ [(v : Int)]).length cb') (xs ++ [(v : Int)])) h3 => hrec2 b' cb' w' h1 h2 h3
        simp only [hl1] at hrec2
        have HR := Lib.hid hrec2
        have HIN := Lib.hid hin
        have hw3 : IntKind.i64.wrap (fw (ent y) (m ++ [f]) + ent y v (lst f m)) = fw (ent y) (m ++ [f]) + ent y v (lst f m) := IntWalk.i64_in _ (by omega)
        clear hrec hrec2 hG2 hw2 hH hhv hin s4 hd2 HIH
        generalize ent y v (lst f m) = z at *
        generalize fw (ent y) (m ++ [f]) = wt at *
        go_wp2_with fail
        refine (HH.out _ hE).mono ?_
        rintro e w' ⟨rfl, rfl⟩
        go_upto_region 8 with fail
        have hBr : B ≤ wr.heap.size := Nat.le_trans hB hE.size
        have hnc : (some ⟨g, 0, none⟩ : Option Addr) = none → cb = 0 := fun h => by cases h
        go_region_held3 (fun w' => Ext wr w' ∧ w'.cell? ⟨p, o + v, none⟩ = some (.slice (some ⟨q3, o3, none⟩) y.length c3) ∧ w'.cell? ⟨q3, o3 + lst f m, none⟩ = some (.int .i64 z))
          ((refine keepR1g e1 e2 ?_; (first | exact Ext.refl _ | exact (Ext.refl _).drew | exact Ext.trans (And.left ‹Ext wr _ ∧ _›) hE2 | exact Ext.alloc (And.left ‹Ext wr _ ∧ _›) _ | exact app_ext (And.left ‹Ext wr _ ∧ _›) (by first | exact hO3 | exact hO3.ext ((Ext.refl _).alloc _)) (Nat.le_refl _) hgx | exact Ext.trans (And.left ‹Ext wr _ ∧ _›) hE5)))
          (first
            | (go_at_call 88; refine (l01Own_c _ _ _ _ (hyi.mono (hE.trans (And.left ‹Ext wr _ ∧ _›))) hnc (by omega)).mono ?_; rintro e w2 ⟨ar, cr, rfl, hO2, hE2⟩; have hO3 := OwnI.mono (B' := wr.heap.size) hO2 (And.left ‹Ext wr _ ∧ _›).size)
            | (go_at_call 151; have hO9 := hO4.mono hBr; rw [hl1] at hO9; refine (HR.out _ _ _ (HX.out.1.mono (hE.trans (And.left ‹Ext wr _ ∧ _›))) hO9 (Nat.le_trans hBr (And.left ‹Ext wr _ ∧ _›).size)).mono ?_; rintro e w5 ⟨b5, c5, out, rfl, hO5, hP5, hE5⟩)
            | (refine step_app_i rfl _ _ rfl wr.heap.size _ _ rfl (by first | exact hO3 | exact hO3.ext ((Ext.refl _).alloc _)) _ 1 _ rfl (by first | exact cell_one _ _ _ | exact hE2.cell (cell_one _ _ _)) (by omega) (And.left ‹Ext wr _ ∧ _›).size ?_; intro v' w' hO4 hgx; obtain ⟨a4, c4, rfl, hi4⟩ := hO4.at))
        all_goals
          have hEe : Ext wr w5 := And.left ‹Ext wr _ ∧ _›
          clear e1 e2
          by_cases h0 : 0 < out.length
          · have hfd : Found (ent y) y.length over out := by
              rcases hP5 with ⟨rfl, _⟩ | h
              · simp at h0
              · exact h
            have HFd := Lib.hid hfd
            clear hfd hP5
            go_wp2
            go_ret
            exact ⟨b5, c5, out, rfl, hO5, .inr HFd.out, hE.trans hEe⟩
          · have hby : Beyond (ent y) y.length f (v :: m) over := by
              rcases hP5 with ⟨_, h⟩ | h
              · exact h
              · exact absurd h.ne h0
            have hnext : Hid (∀ u, f < u → u < v + 1 → u ∉ m → ent y u (lst f m) ≠ -1000000000000000 → Beyond (ent y) y.length f (u :: m) over) := fun u h1 h2 h3 h4 => by
              by_cases e : u = v
              · subst e; exact hby
              · exact hrun.out u h1 (by omega) h3 h4
            clear hby hP5 hrun
            go_wp2
            go_roundw
            case rel => exact ⟨v + 1, by omega, by omega, by go_num, hE.trans hEe, hnext⟩
            case measure => simp [intOf]; omega
      · obtain rfl : y.length = v := by omega
        have HE := Lib.hid (HB0.out fun u h1 h2 h3 h4 => hrun.out u h1 h2 h3 h4)
        go_wp2
        go_ret
        exact ⟨none, 0, [], rfl, OwnI.nil _ _, .inl ⟨rfl, HE.out⟩, hE⟩
end Go.Proofs.Ytljchmkoafahgaa
