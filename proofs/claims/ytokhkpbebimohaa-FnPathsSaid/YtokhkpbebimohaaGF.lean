/- Several texts in one: E13 E14. -/
import Derived.Test.YtokhkpbebimohaaGL
import Derived.Test.YtokhkpbebimohaaGO
import Derived.Test.YtokhkpbebimohaaE10
import Derived.Test.YtokhkpbebimohaaE12
import Derived.Deep.CutRange
import Derived.Deep.LoopGhost
/- Contracts of the search for cycles: l03Grow, l03Over. Conditions: the forms of the table and of the path. -/
namespace Go.Proofs.Ytokhkpbebimohaa
set_option linter.unusedVariables false
set_option linter.unusedSimpArgs false
open Go.RowKit

theorem keepR1g {W w' : World} {p q : Addr} {x y : Value} (c0 : W.cell? p = some x) (c1 : W.cell? q = some y) (h : Ext W w') : Ext W w' ∧ w'.cell? p = some x ∧ w'.cell? q = some y := ⟨h, h.cell c0, h.cell c1⟩
/-- hands back a list of which P holds, in memory from block B on -/
def GP (B : Nat) (w : World) (P : List Int → Prop) (e : Ending) (w' : World) : Prop := ∃ b c out, e = .returned (.slice b (out : List Int).length c) ∧ OwnI w' B (.slice b out.length c) out ∧ P out ∧ Ext w w'
theorem app_ext {w0 w w' : World} {v : Value} {xs : List Int} {B : Nat} (hE : Ext w0 w) (hO : OwnI w B v xs) (hB : w0.heap.size ≤ B) (hg : w.grownBy w' v.ownBlock) : Ext w0 w' :=
  hE.grown hg fun k hk => Nat.le_trans hB (hO.lt hk).1

set_option maxHeartbeats 4000000 in
set_option maxRecDepth 100000 in
theorem l03Grow_c {n : Nat} (y : List (List Int)) (hn : y.length = n) (hY : YOk y n) (over : Int) (ho : -1000000000000000 ≤ over ∧ over ≤ 1000000000000000) :
    ∀ (d f : Nat) (m : List Nat) (B : Nat) (a b : Option Addr) (ca cb : Nat) (w : World), n ≤ d + (m.length + 1) → GOk (ent y) n f m → MatAt w a y → OwnI w B (.slice b (pathL f m).length cb) (pathL f m) → B ≤ w.heap.size →
    Calls Try.prog 163 #[.slice a y.length ca, .slice b (pathL f m).length cb, .int .i64 (fw (ent y) (m ++ [f])), .int .i64 over] w (GP B w (GrowPost (ent y) n f m over)) := by
  subst hn
  intro d
  induction d using Nat.strongRecOn with
  | ind d ih =>
  intro f m B a b ca cb w hd hG hx hy hB
  have hwb := hG.bd hY
  obtain ⟨rx, hl1, hl2, hbd⟩ := hY
  have hyl := pathL_len f m
  have hp0 := pathL_zero f m
  have hf := (lo_cons.1 hG.lo).1
  have hll := hG.lt_n
  have hml : m.length + 1 ≤ y.length := by have := nodup_len _ _ hG.nd hG.lo; simpa using this
  have hpl : nth (pathL f m) ((pathL f m).length - 1) = (lst f m : Int) := by
    rw [show (pathL f m).length - 1 = m.length by omega]; exact pathL_last f m
  have hxl := hx.len
  obtain ⟨p, o, rfl⟩ := hx.base (by omega)
  obtain ⟨q, o2, c, d1, dd, -⟩ := hx.hdr rx hf (by omega)
  have d2 := dd (lst f m) hll
  clear dd
  rcases hy.form with ⟨h1, h2⟩ | ⟨g, cap, h1, hBg, hg, hle, hmx, hcc, -⟩
  · have := congrArg List.length h2; rw [hyl] at this; simp at this
  simp only [Value.slice.injEq, Option.some.injEq, Addr.mk.injEq, and_true, true_and] at h1
  obtain ⟨rfl, rfl⟩ := h1
  have hyi := hy.ints
  have c0 := hcc 0 (by omega)
  have cl := hcc ((pathL f m).length - 1) (by omega)
  rw [hp0] at c0
  rw [hpl] at cl
  have el : (((pathL f m).length : Int) - 1) = (((pathL f m).length - 1 : Nat) : Int) := by omega
  have hhas := has_path f m
  have HO := Lib.hid hy
  have HX := Lib.hid (And.intro hx (And.intro rx hbd))
  have HG := Lib.hid hG
  have hIH := fun (d' : Nat) (hd' : d' < d) (v : Nat) (h1 : y.length ≤ d' + ((v :: m).length + 1)) (h2 : GOk (ent y) y.length f (v :: m)) => ih d' hd' f (v :: m) B (some ⟨p, o, none⟩)
  simp only [pathL_snoc] at hIH
  have HIH := Lib.hid hIH
  have hposl : 0 < (pathL f m).length := by omega
  have hxl2 : (pathL f m).length ≤ 10 := by omega
  have hclose := fun h => hG.close (A := ent y) (n := y.length) h
  have HC := Lib.hid hclose
  clear ih hIH hx hy rx hbd hcc hp0 hpl hclose
  obtain ⟨xs, hxs⟩ : ∃ xs, pathL f m = xs := ⟨_, rfl⟩
  rw [hxs] at hyi cl el HO HIH hposl hxl2 hhas hyl hle ⊢
  have HXs := Lib.hid hxs
  have HHas := Lib.hid hhas
  clear hxs hhas
  have HBd := Lib.hid (And.intro hd (And.intro hml hyl))
  clear hd hml hyl hG
  by_cases hc : ent y f (lst f m) ≠ -1000000000000000 ∧ over < fw (ent y) (m ++ [f]) + ent y f (lst f m)
  · -- the path is a cycle that is wanted
    have hz := HX.out.2.2 _ _ hc.1
    have hs4 : (ent y f (lst f m) != -1000000000000000) = true := by simpa using hc.1
    have hw1 : IntKind.i64.wrap (fw (ent y) (m ++ [f]) + ent y f (lst f m)) = fw (ent y) (m ++ [f]) + ent y f (lst f m) := IntWalk.i64_in _ (by omega)
    have hov := hc.2
    have HF := Lib.hid (show Found (ent y) y.length over xs from ⟨f, m, HXs.out.symm, (HC.out hc.1).1, by rw [(HC.out hc.1).2]; exact hc.2⟩)
    clear hc
    generalize ent y f (lst f m) = z at *
    generalize fw (ent y) (m ++ [f]) = wt at *
    generalize lst f m = l at *
    go_enter Try.func163, Try.ntmps163
    go_wp2_with fail
    go_big_quiet (fail)
    go_wp2
    go_ret
    exact ⟨_, _, xs, rfl, HO.out.ext ((Ext.refl w).drewN _), .inr HF.out, (Ext.refl w).drewN _⟩
  · have h0 : ent y f (lst f m) ≠ -1000000000000000 → fw (ent y) (m ++ [f]) + ent y f (lst f m) ≤ over := fun h => Classical.byContradiction fun h2 => hc ⟨h, by omega⟩
    have HB0 := Lib.hid (fun h1 => beyond_of (n := y.length) HG.out h0 h1)
    clear hc
    go_enter Try.func163, Try.ntmps163
    go_wp2_with fail
    go_big_quiet (fail)
    go_upto_region 2 with fail
    go_cut [42] from 22 to 42 (fun s wx => s = .bool false ∧ Qt w wx)
    case first =>
      by_cases s4 : ent y f (lst f m) = -1000000000000000
      · rw [s4] at d2
        go_wp2_with fail
        go_meet
        exact ⟨rfl, (Qt.refl w).drewN _⟩
      · have hz := HX.out.2.2 _ _ s4
        have hs4 : (ent y f (lst f m) != -1000000000000000) = true := by simpa using s4
        have hov := h0 s4
        generalize ent y f (lst f m) = z at *
        generalize fw (ent y) (m ++ [f]) = wt at *
        have hw1 : IntKind.i64.wrap (wt + z) = wt + z := IntWalk.i64_in _ (by omega)
        go_wp2_with fail
        go_meet
        exact ⟨by rw [decide_eq_false (by omega)], (Qt.refl w).drewN _⟩
    case rest =>
    obtain ⟨rfl, hq⟩ := hcut
    have hqe := hq.ext
    have hE0 := Ext.qt (Ext.refl w) hq
    clear d1 d2 c0 cl el h0 hq
    go_wp2
    go_loopw [11] (fun i wr => ∃ v : Nat, f < v ∧ v ≤ y.length ∧ i = .int .i64 v ∧ Ext w wr ∧ Hid (∀ u, f < u → u < v → u ∉ m → ent y u (lst f m) ≠ -1000000000000000 → Beyond (ent y) y.length f (u :: m) over)) (fun i _ => y.length - (intOf i).toNat)
    case atStart => exact ⟨f + 1, by omega, by omega, by go_num, hE0, fun u h1 h2 => by omega⟩
    case round =>
      obtain ⟨v, hfv, hv, rfl, hE, hrun⟩ := hrel
      clear hE0
      by_cases hlt : v < y.length
      · obtain ⟨q3, o3, c3, e1, ee, -⟩ := HX.out.1.hdr HX.out.2.1 hlt (by omega)
        have e2 := ee (lst f m) hll
        replace e1 := hE.cell e1
        replace e2 := hE.cell e2
        clear ee
        by_cases s4 : ent y v (lst f m) = -1000000000000000
        · have hnext : Hid (∀ u, f < u → u < v + 1 → u ∉ m → ent y u (lst f m) ≠ -1000000000000000 → Beyond (ent y) y.length f (u :: m) over) := fun u h1 h2 h3 h4 => by
            by_cases e : u = v
            · subst e; exact absurd s4 h4
            · exact hrun.out u h1 (by omega) h3 h4
          rw [s4] at e2
          clear s4 hrun
          go_wp2_with fail
          go_roundw
          case rel => exact ⟨v + 1, by omega, by omega, by go_num, hE, hnext⟩
          case measure => simp [intOf]; omega
        have hs4 : (ent y v (lst f m) == -1000000000000000) = false := by rw [beq_eq_false_iff_ne]; exact s4
        have S4 := Lib.hid s4
        have hz := HX.out.2.2 _ _ s4
        have hhv := HHas.out v
        by_cases hin : v ∈ m
        · have hnext : Hid (∀ u, f < u → u < v + 1 → u ∉ m → ent y u (lst f m) ≠ -1000000000000000 → Beyond (ent y) y.length f (u :: m) over) := fun u h1 h2 h3 h4 => by
            by_cases e : u = v
            · subst e; exact absurd hin h3
            · exact hrun.out u h1 (by omega) h3 h4
          have hH := fun w' (h : Ext w w') => asB (c := true) (by rw [hhv]; simp [hin]) (l01Has_c (some ⟨g, 0, none⟩) cb xs (v : Int) w' (hyi.mono h))
          have HH := Lib.hid hH
          clear s4 hrun hH hhv hin
          generalize ent y v (lst f m) = z at *
          go_wp2_with fail
          refine (HH.out _ hE).mono ?_
          rintro e w' ⟨rfl, rfl⟩
          go_wp2_with fail
          go_roundw
          case rel => exact ⟨v + 1, by omega, by omega, by go_num, hE, hnext⟩
          case measure => simp [intOf]; omega
        obtain ⟨hG2, hw2⟩ := HG.out.grow hfv hlt hin s4
        have hH := fun w' (h : Ext w w') => asB (c := false) (by rw [hhv]; simp [hin]; omega) (l01Has_c (some ⟨g, 0, none⟩) cb xs (v : Int) w' (hyi.mono h))
        have HH := Lib.hid hH
        have hd2 : 1 ≤ d := by
          have h1 := nodup_len _ _ hG2.nd hG2.lo
          have := HBd.out.1
          simp only [List.length_cons] at h1
          omega
        have hrec := HIH.out (d - 1) (by omega) v (by have := HBd.out.1; simp only [List.length_cons]; omega) hG2
        rw [hw2] at hrec
        have hrec2 := fun b' cb' w' h1 h2 h3 => hrec b' ca cb' w' (by have := HBd.out.1; simp only [List.length_cons]; omega) hG2 h1 h2 h3
        have hl1 : (xs ++ [(v : Int)]).length = xs.length + 1 := by simp
        replace hrec2 := fun b' cb' w' h1 (h2 : OwnI w' B (.slice b' (xs ++ [(v : Int)]).length cb') (xs ++ [(v : Int)])) h3 => hrec2 b' cb' w' h1 h2 h3
        simp only [hl1] at hrec2
        have HR := Lib.hid hrec2
        have HIN := Lib.hid hin
        have hw3 : IntKind.i64.wrap (fw (ent y) (m ++ [f]) + ent y v (lst f m)) = fw (ent y) (m ++ [f]) + ent y v (lst f m) := IntWalk.i64_in _ (by omega)
        clear hrec hrec2 hG2 hw2 hH hhv hin s4 hd2 HIH
        generalize ent y v (lst f m) = z at *
        generalize fw (ent y) (m ++ [f]) = wt at *
        go_wp2_with fail
        refine (HH.out _ hE).mono ?_
        rintro e w' ⟨rfl, rfl⟩
        go_upto_region 8 with fail
        have hBr : B ≤ wr.heap.size := Nat.le_trans hB hE.size
        have hnc : (some ⟨g, 0, none⟩ : Option Addr) = none → cb = 0 := fun h => by cases h
        go_region_held3 (fun w' => Ext wr w' ∧ w'.cell? ⟨p, o + v, none⟩ = some (.slice (some ⟨q3, o3, none⟩) y.length c3) ∧ w'.cell? ⟨q3, o3 + lst f m, none⟩ = some (.int .i64 z))
          ((refine keepR1g e1 e2 ?_; (first | exact Ext.refl _ | exact (Ext.refl _).drew | exact Ext.trans (And.left ‹Ext wr _ ∧ _›) hE2 | exact Ext.alloc (And.left ‹Ext wr _ ∧ _›) _ | exact app_ext (And.left ‹Ext wr _ ∧ _›) (by first | exact hO3 | exact hO3.ext ((Ext.refl _).alloc _)) (Nat.le_refl _) hgx | exact Ext.trans (And.left ‹Ext wr _ ∧ _›) hE5)))
          (first
            | (go_at_call 165; refine (l01Own_c _ _ _ _ (hyi.mono (hE.trans (And.left ‹Ext wr _ ∧ _›))) hnc (by omega)).mono ?_; rintro e w2 ⟨ar, cr, rfl, hO2, hE2⟩; have hO3 := OwnI.mono (B' := wr.heap.size) hO2 (And.left ‹Ext wr _ ∧ _›).size)
            | (go_at_call 163; have hO9 := hO4.mono hBr; rw [hl1] at hO9; refine (HR.out _ _ _ (HX.out.1.mono (hE.trans (And.left ‹Ext wr _ ∧ _›))) hO9 (Nat.le_trans hBr (And.left ‹Ext wr _ ∧ _›).size)).mono ?_; rintro e w5 ⟨b5, c5, out, rfl, hO5, hP5, hE5⟩)
            | (refine step_app_i rfl _ _ rfl wr.heap.size _ _ rfl (by first | exact hO3 | exact hO3.ext ((Ext.refl _).alloc _)) _ 1 _ rfl (by first | exact cell_one _ _ _ | exact hE2.cell (cell_one _ _ _)) (by omega) (And.left ‹Ext wr _ ∧ _›).size ?_; intro v' w' hO4 hgx; obtain ⟨a4, c4, rfl, hi4⟩ := hO4.at))
        all_goals
          have hEe : Ext wr w5 := And.left ‹Ext wr _ ∧ _›
          clear e1 e2
          by_cases h0 : 0 < out.length
          · have hfd : Found (ent y) y.length over out := by
              rcases hP5 with ⟨rfl, _⟩ | h
              · simp at h0
              · exact h
            have HFd := Lib.hid hfd
            clear hfd hP5
            go_wp2
            go_ret
            exact ⟨b5, c5, out, rfl, hO5, .inr HFd.out, hE.trans hEe⟩
          · have hby : Beyond (ent y) y.length f (v :: m) over := by
              rcases hP5 with ⟨_, h⟩ | h
              · exact h
              · exact absurd h.ne h0
            have hnext : Hid (∀ u, f < u → u < v + 1 → u ∉ m → ent y u (lst f m) ≠ -1000000000000000 → Beyond (ent y) y.length f (u :: m) over) := fun u h1 h2 h3 h4 => by
              by_cases e : u = v
              · subst e; exact hby
              · exact hrun.out u h1 (by omega) h3 h4
            clear hby hP5 hrun
            go_wp2
            go_roundw
            case rel => exact ⟨v + 1, by omega, by omega, by go_num, hE.trans hEe, hnext⟩
            case measure => simp [intOf]; omega
      · obtain rfl : y.length = v := by omega
        have HE := Lib.hid (HB0.out fun u h1 h2 h3 h4 => hrun.out u h1 h2 h3 h4)
        go_wp2
        go_ret
        exact ⟨none, 0, [], rfl, OwnI.nil _ _, .inl ⟨rfl, HE.out⟩, hE⟩
end Go.Proofs.Ytokhkpbebimohaa

/- Contracts of l03Over, l04Best and CycleMean of the reference. Conditions: the forms of the table. -/
namespace Go.Proofs.Ytokhkpbebimohaa
set_option linter.unusedVariables false
set_option linter.unusedSimpArgs false
open Go.RowKit

theorem OwnI.lit1 (w : World) (x : Int) : OwnI (w.alloc (.cells #[.int .i64 x] 2)) w.heap.size (.slice (some ⟨w.heap.size, 0, none⟩) 1 1) [x] :=
  World.ownsRow_lit w #[.int .i64 x] 1 (Nat.le_refl _) (by decide) rfl
set_option maxHeartbeats 1000000 in
theorem l03Over_c {n : Nat} (y : List (List Int)) (hn : y.length = n) (hY : YOk y n) (over : Int) (ho : -1000000000000000 ≤ over ∧ over ≤ 1000000000000000) (a : Option Addr) (ca : Nat) (w : World) (hx : MatAt w a y) :
    Calls Try.prog 143 #[.slice a y.length ca, .int .i64 over] w (GP w.heap.size w (OverPost (ent y) n over)) := by
  subst hn
  have hxl := hx.len
  have hG : ∀ (v : Nat), v < y.length → ∀ (b : Option Addr) (cb : Nat) (B : Nat) (w' : World), Ext w w' → OwnI w' B (.slice b 1 cb) [(v : Int)] → B ≤ w'.heap.size →
      Calls Try.prog 163 #[.slice a y.length ca, .slice b 1 cb, .int .i64 0, .int .i64 over] w' (GP B w' (GrowPost (ent y) y.length v [] over)) := fun v hv b cb B w' hE hO hB =>
    l03Grow_c y rfl hY over ho y.length v [] B a b ca cb w' (by omega) (GOk.start hv) (hx.mono hE) hO hB
  have HG := Lib.hid hG
  clear hG hx hY
  go_enter Try.func143, Try.ntmps143
  go_wp2
  go_loopw [5] (fun i wr => ∃ v : Nat, v ≤ y.length ∧ i = .int .i64 v ∧ Ext w wr ∧ Hid (∀ u, u < v → Beyond (ent y) y.length u [] over)) (fun i _ => y.length - (intOf i).toNat)
  case atStart => exact ⟨0, Nat.zero_le _, rfl, Ext.refl _, fun u h => absurd h (Nat.not_lt_zero _)⟩
  case round =>
    obtain ⟨v, hv, rfl, hE, hrun⟩ := hrel
    by_cases hlt : v < y.length
    · have hEo := hE.alloc (.cells #[.int .i64 (v : Int)] 2)
      have hO := OwnI.lit1 wr (v : Int)
      have hsz : w.heap.size ≤ wr.heap.size := hE.size
      have HO := Lib.hid (And.intro hO hEo)
      clear hO hEo
      go_wp2_with fail
      refine (HG.out v hlt _ _ w.heap.size _ HO.out.2 (HO.out.1.mono hsz) HO.out.2.size).mono ?_
      rintro e w5 ⟨b5, c5, out, rfl, hO5, hP5, hE5⟩
      have hEe := HO.out.2.trans hE5
      by_cases h0 : 0 < out.length
      · have hfd : Found (ent y) y.length over out := by
          rcases hP5 with ⟨rfl, _⟩ | h
          · simp at h0
          · exact h
        have HFd := Lib.hid hfd
        clear hfd hP5
        go_wp2
        go_ret
        exact ⟨b5, c5, out, rfl, hO5, .inr HFd.out, hEe⟩
      · have hby : Beyond (ent y) y.length v [] over := by
          rcases hP5 with ⟨_, h⟩ | h
          · exact h
          · exact absurd h.ne h0
        have hnext : Hid (∀ u, u < v + 1 → Beyond (ent y) y.length u [] over) := fun u h1 => by
          by_cases e : u = v
          · subst e; exact hby
          · exact hrun.out u (by omega)
        clear hby hP5 hrun
        go_wp2
        go_roundw
        case rel => exact ⟨v + 1, by omega, by go_num, hEe, hnext⟩
        case measure => simp [intOf]; omega
    · obtain rfl : y.length = v := by omega
      have HE := Lib.hid (over_of fun u h => hrun.out u h)
      go_wp2
      go_ret
      exact ⟨none, 0, [], rfl, OwnI.nil _ _, .inl ⟨rfl, HE.out⟩, hE⟩

theorem zM_bd {w len : Int} (h1 : 1 ≤ len ∧ len ≤ 10) (h2 : -1000000 * len ≤ w ∧ w ≤ 1000000 * len) : -2520000000 ≤ zM w len ∧ zM w len ≤ 2520000000 := by
  have : len = 1 ∨ len = 2 ∨ len = 3 ∨ len = 4 ∨ len = 5 ∨ len = 6 ∨ len = 7 ∨ len = 8 ∨ len = 9 ∨ len = 10 := by omega
  unfold zM
  rcases this with rfl | rfl | rfl | rfl | rfl | rfl | rfl | rfl | rfl | rfl <;> omega
theorem cyc_zM {x : List (List Int)} (h : isSq x = true) {f : Nat} {m : List Nat} (hc : Cy (ent x) x.length f m) : -2520000000 ≤ zM (cw (ent x) f m) ((m.length : Int) + 1) ∧ zM (cw (ent x) f m) ((m.length : Int) + 1) ≤ 2520000000 := by
  have h1 := hc.len; have h2 := (isSq_rect h).2.2; have h3 := cw_bd h hc
  exact zM_bd (by omega) h3
/-- what the reference's search for the greatest mean hands back -/
def BestPost (x : List (List Int)) (w : World) (e : Ending) (w' : World) : Prop :=
  ∃ b c out, e = .returned (.tuple #[.slice b (out : List Int).length c, .bool (bestO x x.length).isSome]) ∧ OwnI w' w.heap.size (.slice b out.length c) out ∧ out.length ≤ 10 ∧
    (∀ R, bestO x x.length = some R → ∃ t, cycleO x out = some t ∧ ratOf t out.length = R) ∧ Ext w w'
set_option maxHeartbeats 4000000 in
theorem l04Best_c (a : Option Addr) (ca : Nat) (x : List (List Int)) (w : World) (hx : MatAt w a x) (hs : isSq x = true) : Calls Try.prog 106 #[.slice a x.length ca] w (BestPost x w) := by
  have hxl := hx.len
  have hl := isSq_rect hs
  have hF := fun w' (h : Ext w w') => l03Over_c x rfl (YOk.of_sq hs) (-1000000000000000) (by omega) a ca w' (hx.mono h)
  have hM : ∀ (b : Option Addr) (cb : Nat) (B : Nat) (f : Nat) (m : List Nat) (w' : World), Ext w w' → Cy (ent x) x.length f m → OwnI w' B (.slice b (pathL f m).length cb) (pathL f m) →
      Calls Try.prog 107 #[.slice a x.length ca, .slice b (pathL f m).length cb] w' fun e w'' => e = .returned (.tuple #[.agg #[.int .i64 (mn (ent x) f m).1, .int .i64 (mn (ent x) f m).2], .bool true]) ∧ Ext w' w'' := by
    intro b cb B f m w' h hc hO
    have := l04Mean_c a b ca cb x (pathL f m) w' (hx.mono h) hO (by rw [pathL_len]; have := hc.len; omega) hs
    rw [mn_cycle hc] at this
    simp only [Option.map_some, Option.getD_some, Option.isSome_some] at this
    have e : ratOf (cw (ent x) f m) (((pathL f m).length : Nat) : Int) = mn (ent x) f m := by unfold mn; rw [pathL_len]; rfl
    rw [e] at this
    exact this
  have hS := fun (R : Int × Int) (hR : (-100000000 ≤ R.1 ∧ R.1 ≤ 100000000) ∧ (-1000000 ≤ R.2 ∧ R.2 ≤ 1000000)) w' (h : Ext w w') => l04Shift_cW a ca x R.1 R.2 w' (hx.mono h) hs hR.1 hR.2
  have hV := fun (R : Int × Int) (hR : (-100000000 ≤ R.1 ∧ R.1 ≤ 100000000) ∧ (-1000000 ≤ R.2 ∧ R.2 ≤ 1000000)) over ho (b : Option Addr) (cb : Nat) w' (h : MatAt w' b (shiftM x R.1 R.2)) =>
    l03Over_c (n := x.length) (shiftM x R.1 R.2) (mkMat_len _ _ _) (YOk.of_shift hs hR.1 hR.2) over ho b cb w' h
  have HF := Lib.hid hF
  have HM := Lib.hid hM
  have HS := Lib.hid hS
  have HV := Lib.hid hV
  have HX := Lib.hid (And.intro hs hl.2.2)
  clear hx hl hF hM hS hV hs
  go_enter Try.func106, Try.ntmps106
  go_wp2_with fail
  refine (HF.out _ (Ext.refl _)).mono ?_
  rintro e w1 ⟨b1, c1, out, rfl, hO1, hP1, hE1⟩
  have hst : Hid ((out = [] ∧ bestO x x.length = none) ∨ ∃ f m, out = pathL f m ∧ Cy (ent x) x.length f m) := by
    rcases hP1 with ⟨h1, h2⟩ | ⟨f, m, h1, h2, _⟩
    · exact .inl ⟨h1, over_none HX.out.1 h2⟩
    · exact .inr ⟨f, m, h1, h2⟩
  clear hP1
  go_wp2
  go_loopg [4] 5040000001 (fun gg s wr => ∃ (b : Option Addr) (c : Nat) (out : List Int), s = .slice b out.length c ∧ Ext w wr ∧ OwnI wr w.heap.size (.slice b out.length c) out ∧
    Hid ((out = [] ∧ bestO x x.length = none) ∨ ∃ f m, out = pathL f m ∧ Cy (ent x) x.length f m ∧ 2520000000 - zM (cw (ent x) f m) ((m.length : Int) + 1) < (gg : Int)))
  case atStart =>
    refine ⟨b1, c1, out, rfl, hE1, hO1, ?_⟩
    rcases hst.out with h | ⟨f, m, h1, h2⟩
    · exact .inl h
    · refine .inr ⟨f, m, h1, h2, ?_⟩
      have := cyc_zM HX.out.1 h2
      omega
  case round =>
    obtain ⟨b, c, out, rfl, hE, hO, hst⟩ := hrel
    by_cases hb : out = [] ∧ bestO x x.length = none
    · obtain ⟨rfl, hbn⟩ := hb
      have HBn := Lib.hid hbn
      clear hbn hst hO
      go_wp2
      go_ret2
      refine ⟨none, 0, [], ?_, OwnI.nil _ _, by simp, fun R h => ?_, hE⟩
      · rw [HBn.out]; rfl
      · rw [HBn.out] at h; cases h
    obtain ⟨f, m, rfl, hc, hgg⟩ := hst.out.resolve_left hb
    have hzb := cyc_zM HX.out.1 hc
    clear hb hst
    have hmean := fun w' h hO => HM.out b c w.heap.size f m w' h hc hO
    have hRb := mn_bd HX.out.1 hc
    have h1 := fun hp => best_of_none HX.out.1 hc hp
    have h2 := fun g k hk h0 => mn_same HX.out.1 hc (g := g) (k := k) hk h0
    have h3 := mn_self HX.out.1 hc
    have h4 := fun g k hk h0 => zM_inc HX.out.1 hc (g := g) (k := k) hk h0
    have h5 := fun g k hl => (cw_shift HX.out.1 hc (g := g) (k := k) hl).1
    have hl : 0 < (pathL f m).length := by rw [pathL_len]; omega
    have HGg := Lib.hid (And.intro hgg hzb)
    have HC := Lib.hid hc
    clear hc hgg hzb
    generalize mn (ent x) f m = R at *
    generalize pathL f m = xs at *
    have HP := Lib.hid (And.intro h1 (And.intro h2 (And.intro h3 (And.intro h4 h5))))
    have HMean := Lib.hid hmean
    clear h1 h2 h3 h4 h5 hmean
    go_wp2_with fail
    refine (HMean.out _ hE hO).mono ?_
    rintro e w2 ⟨rfl, hE2⟩
    obtain ⟨W3, hW3, HB0, HB1, hs4, hE4, hE5⟩ := box_putE w2 (.int .i64 R.1) (.int .i64 R.2) 55
    obtain ⟨q0, q1, p0, p1⟩ := HB0
    obtain ⟨r0, r1, -, -⟩ := HB1
    have hEx := (hE.trans hE2).trans hE5
    clear hE4 hs4
    go_wp2_with fail
    refine (HS.out R hRb _ hEx).mono ?_
    rintro e w4 ⟨a4, c4, rfl, hO4, hE6⟩
    go_wp2_with fail
    refine (HV.out R hRb 0 (by omega) _ _ _ hO4.mat).mono ?_
    rintro e w5 ⟨b5, c5, nxt, rfl, hO5, hP5, hE7⟩
    have hE67 := hE6.trans hE7
    replace r0 := hE67.cell r0
    replace r1 := hE67.cell r1
    have hEw5 := hEx.trans hE67
    by_cases h0 : nxt.length = 0
    · obtain rfl := List.eq_nil_of_length_eq_zero h0
      have hnone : ∀ g k, Cy (ent (shiftM x R.1 R.2)) x.length g k → cw (ent (shiftM x R.1 R.2)) g k ≤ 0 := by
        rcases hP5 with ⟨_, h⟩ | h
        · exact h
        · have := h.ne; simp at this
      have hbest := HP.out.1 hnone
      have HBe := Lib.hid (And.intro hbest hnone)
      clear hP5 hbest hnone hO5 h0 hO4 q0 q1 p0 p1
      go_wp2_with fail
      refine (HS.out R hRb _ hEw5).mono ?_
      rintro e w6 ⟨a6, c6, rfl, hO6, hE8⟩
      go_wp2_with fail
      refine (HV.out R hRb (-1) (by omega) _ _ _ hO6.mat).mono ?_
      rintro e w7 ⟨b7, c7, res, rfl, hO7, hP7, hE9⟩
      have hfin : ∃ g k, res = pathL g k ∧ Cy (ent x) x.length g k ∧ mn (ent x) g k = R := by
        rcases hP7 with ⟨_, h⟩ | ⟨g, k, h1, h2, h3⟩
        · have hcs := (HP.out.2.2.2.2 f m HC.out.lo).2 HC.out
          have := h f m hcs
          have := HP.out.2.2.1
          omega
        · have hk := (HP.out.2.2.2.2 g k h2.lo).1 h2
          have h4 := HBe.out.2 g k h2
          exact ⟨g, k, h1, hk, HP.out.2.1 g k hk (by omega)⟩
      have HFin := Lib.hid hfin
      have hEf := hEw5.trans (hE8.trans hE9)
      have hO7' := hO7.mono (Nat.le_trans hEw5.size hE8.size)
      clear hP7 hfin hO6 hO7
      go_wp2
      go_ret2
      obtain ⟨g, k, rfl, hk, hmn⟩ := HFin.out
      refine ⟨b7, c7, pathL g k, ?_, hO7', ?_, fun R' hR' => ?_, hEf⟩
      · rw [HBe.out.1]; rfl
      · rw [pathL_len]; have := hk.len; have := HX.out.2; omega
      · rw [HBe.out.1] at hR'
        simp only [Option.some.injEq] at hR'
        refine ⟨_, mn_cycle hk, ?_⟩
        rw [← hR', ← hmn]; unfold mn; rw [pathL_len]; rfl
    · have hst : Hid ((nxt = [] ∧ bestO x x.length = none) ∨ ∃ g k, nxt = pathL g k ∧ Cy (ent x) x.length g k ∧ 2520000000 - zM (cw (ent x) g k) ((k.length : Int) + 1) < (((2520000000 - zM (cw (ent x) f m) ((m.length : Int) + 1)).toNat : Nat) : Int)) := by
        rcases hP5 with ⟨rfl, _⟩ | ⟨g, k, h1, h2, h3⟩
        · simp at h0
        · have hk := (HP.out.2.2.2.2 g k h2.lo).1 h2
          have := HP.out.2.2.2.1 g k hk h3
          have := HGg.out
          exact .inr ⟨g, k, h1, hk, by omega⟩
      have h0' : ((nxt.length : Int) == 0) = false := by rw [beq_eq_false_iff_ne]; omega
      have hO5' := hO5.mono (Nat.le_trans hEx.size hE6.size)
      have hgp := HGg.out
      clear hP5 hO5 hO4 q0 q1 p0 p1
      go_wp2
      go_roundg ((2520000000 - zM (cw (ent x) f m) ((m.length : Int) + 1)).toNat)
      case measure => omega
      case rel => exact ⟨b5, c5, nxt, rfl, hEw5, hO5', hst⟩
theorem l04Best_none (a : Option Addr) (ca : Nat) (x : List (List Int)) (w : World) (hx : MatAt w a x) (hs : isSq x = true) (hb : bestO x x.length = none) :
    Calls Try.prog 106 #[.slice a x.length ca] w fun e w' => ∃ b c n, e = .returned (.tuple #[.slice b n c, .bool false]) ∧ Ext w w' := by
  refine (l04Best_c a ca x w hx hs).mono ?_
  rintro e w' ⟨b, c, out, rfl, -, -, -, hE⟩
  exact ⟨b, c, _, by rw [hb]; rfl, hE⟩
theorem l04Best_some (a : Option Addr) (ca : Nat) (x : List (List Int)) (w : World) (hx : MatAt w a x) (hs : isSq x = true) {R : Int × Int} (hb : bestO x x.length = some R) :
    Calls Try.prog 106 #[.slice a x.length ca] w fun e w' => ∃ b c out, e = .returned (.tuple #[.slice b (out : List Int).length c, .bool true]) ∧ OwnI w' w.heap.size (.slice b out.length c) out ∧ out.length ≤ 10 ∧ (∃ t, cycleO x out = some t ∧ ratOf t out.length = R) ∧ Ext w w' := by
  refine (l04Best_c a ca x w hx hs).mono ?_
  rintro e w' ⟨b, c, out, rfl, hO, hl, hR, hE⟩
  exact ⟨b, c, out, by rw [hb]; rfl, hO, hl, hR R hb, hE⟩
theorem l04Mean_of {B : Nat} (a b : Option Addr) (ca cb : Nat) (x : List (List Int)) (xs : List Int) (w : World) (hx : MatAt w a x) (hy : OwnI w B (.slice b xs.length cb) xs) (hl : xs.length ≤ 10) (hs : isSq x = true) {R : Int × Int} (h : ∃ t, cycleO x xs = some t ∧ ratOf t xs.length = R) :
    Calls Try.prog 107 #[.slice a x.length ca, .slice b xs.length cb] w fun e w' => e = .returned (.tuple #[.agg #[.int .i64 (R).1, .int .i64 (R).2], .bool true]) ∧ Ext w w' := by
  obtain ⟨t, h1, h2⟩ := h
  have := l04Mean_c a b ca cb x xs w hx hy (by omega) hs
  rw [h1] at this
  simp only [Option.map_some, Option.getD_some, Option.isSome_some, h2] at this
  exact this
set_option maxHeartbeats 400000 in
theorem specCyc_c (a : Option Addr) (ca : Nat) (x : List (List Int)) (w : World) (hx : MatAt w a x) :
    Calls Try.prog 44 #[.slice a x.length ca] w fun e w' => e = .returned (.tuple #[.agg #[.int .i64 ((tabV x).1).1, .int .i64 ((tabV x).1).2], .int .i64 (tabV x).2]) ∧ Ext w w' := by
  obtain ⟨W, hW, HB, hs1, hE⟩ := alloc2_facts w (.int .i64 0) (.int .i64 0) 55
  have hE1' : Ext W W := Ext.refl W
  have HX := Lib.hid hx
  clear hx
  cases hs : isSq x
  · have e : tabV x = ((0, 0), 1) := by simp [tabV, hs]
    rw [e]; clear e
    go_enter Try.func44, Try.ntmps44
    go_wp2_with fail
    refine (asB hs (l02Square_c _ _ _ _ (HX.out.mono hE))).mono ?_
    rintro e w1 ⟨rfl, E1⟩
    replace E1 := E1.ext
    obtain ⟨d0, d1, g0, g1⟩ := HB.ext E1
    have hEE := hE.trans E1
    go_wp2
    refine bodyPost_ret (v := .tuple #[.agg #[.int .i64 (0), .int .i64 (0)], .int .i64 (1)]) (by simp [results, Try.results44, go_sem, d0, d1]) rfl ⟨rfl, ?_⟩
    repeat (first | exact hEE | refine Ext.set ?_ (Nat.le_refl _) _)
  cases hw : bestO x x.length with
  | none =>
    have HW := Lib.hid (fun w' (h : Ext w w') => l04Best_none a ca x w' (HX.out.mono h) hs hw)
    have e : tabV x = ((0, 0), 4) := by simp [tabV, hs, hw, optT]
    rw [e]; clear e
    clear hw
    go_enter Try.func44, Try.ntmps44
    go_wp2_with fail
    refine (asB hs (l02Square_c _ _ _ _ (HX.out.mono hE))).mono ?_
    rintro e w1 ⟨rfl, E1⟩
    replace E1 := E1.ext
    have hEE := hE.trans E1
    go_wp2_with fail
    refine (HW.out _ hEE).mono ?_
    rintro e w2 ⟨b, c, n, rfl, E2⟩
    obtain ⟨d0, d1, g0, g1⟩ := HB.ext (E1.trans E2)
    have hE6 := hEE.trans E2
    go_wp2
    refine bodyPost_ret (v := .tuple #[.agg #[.int .i64 (0), .int .i64 (0)], .int .i64 (4)]) (by simp [results, Try.results44, go_sem, d0, d1]) rfl ⟨rfl, ?_⟩
    repeat (first | exact hE6 | refine Ext.set ?_ (Nat.le_refl _) _)
  | some R =>
    have HW := Lib.hid (fun w' (h : Ext w w') => l04Best_some a ca x w' (HX.out.mono h) hs hw)
    have HM := Lib.hid (fun (B : Nat) (b : Option Addr) (cb : Nat) xs w' (h : Ext w w') hy hl hr => l04Mean_of (B := B) a b ca cb x xs w' (HX.out.mono h) hy hl hs (R := R) hr)
    have e : tabV x = chkR R := by simp [tabV, hs, hw, optT]
    rw [e]; clear e
    clear hw
    go_enter Try.func44, Try.ntmps44
    go_wp2_with fail
    refine (asB hs (l02Square_c _ _ _ _ (HX.out.mono hE))).mono ?_
    rintro e w1 ⟨rfl, E1⟩
    replace E1 := E1.ext
    have hEE := hE.trans E1
    go_wp2_with fail
    refine (HW.out _ hEE).mono ?_
    rintro e w2 ⟨b, c, out, rfl, hO, hl, hr, E2⟩
    have hE2 := hEE.trans E2
    go_wp2_with fail
    refine (HM.out _ b c out _ hE2 hO hl hr).mono ?_
    rintro e w3 ⟨rfl, E3⟩
    obtain ⟨W4, hW4, HC, HC2, hs4, hE4, hE5⟩ := box_putE w3 (.int .i64 R.1) (.int .i64 R.2) 55
    obtain ⟨q0, q1, p0, p1⟩ := HC
    have hne : w3.heap.size ≠ w.heap.size := by have := hE1'.size; have := E1.size; have := E2.size; have := E3.size; omega
    clear hO hr
    go_wp2_with fail
    refine (l04Result_c R.1 R.2 _).mono ?_
    rintro e w5 ⟨rfl, E5⟩
    obtain ⟨d0, d1, g0, g1⟩ := HB.ext ((((E1.trans E2).trans E3).trans hE5).trans E5)
    have hE6 := ((hE2.trans E3).trans hE5).trans E5
    go_wp2
    refine bodyPost_ret (v := .tuple #[.agg #[.int .i64 ((chkR R).1.1), .int .i64 ((chkR R).1.2)], .int .i64 (chkR R).2]) (by simp [results, Try.results44, go_sem, d0, d1]) rfl ⟨rfl, ?_⟩
    repeat (first | exact hE6 | refine Ext.set ?_ (Nat.le_refl _) _)
end Go.Proofs.Ytokhkpbebimohaa
