/- Contracts of StarMatrix, PlusMatrix, FixedPoint and PotentialOf, the program's and the reference's. No condition. -/
import Derived.Test.YtokhkpbebimohaaM14
import Derived.Test.YtokhkpbebimohaaGO
namespace Go.Proofs.Ytokhkpbebimohaa
set_option linter.unusedVariables false
set_option linter.unusedSimpArgs false
open Go.RowKit

theorem starM_len (y : List (List Int)) (n : Nat) : (starM y n).length = n := mkMat_len _ _ _

set_option maxHeartbeats 400000 in
theorem implStar_c (a : Option Addr) (ca : Nat) (x : List (List Int)) (w : World) (hx : MatAt w a x) : Calls Try.prog 41 #[.slice a x.length ca] w (GivesM2 w (starV x).1 (starV x).2) := by
  cases hs : isSq x
  · have e : starV x = ([], 1) := by simp [starV, hs]
    rw [e]; clear e
    go_enter Try.func41, Try.ntmps41
    go_wp2_with fail
    refine (asB hs (isSquare_c _ _ _ _ hx)).mono ?_
    rintro e w1 ⟨rfl, E1⟩
    go_wp2
    go_ret2
    exact ⟨none, 0, rfl, OwnM.nil _ _, E1⟩
  obtain ⟨rx, hl1, hl2⟩ := isSq_rect hs
  cases hb : starB (ent x) x.length
  · have e : starV x = ([], 5) := by simp [starV, hs, hb]
    rw [e]; clear e
    have Hb := Lib.hid hb
    clear hb
    go_enter Try.func41, Try.ntmps41
    go_wp2_with fail
    refine (asB hs (isSquare_c _ _ _ _ hx)).mono ?_
    rintro e w1 ⟨rfl, E1⟩
    go_wp2_with fail
    refine (starOf_c _ _ x x.length _ _ (hx.mono E1) (isSq_rect hs).1 hl1 hl2 (isSq_abd hs)).mono ?_
    rintro e w2 ⟨E2, hg1, hg2⟩
    obtain ⟨a2, k2, c2, rfl⟩ := hg2 Hb.out
    clear hg1 hg2
    go_wp2
    go_ret2
    exact ⟨none, 0, rfl, OwnM.nil _ _, E1.trans E2⟩
  have e : starV x = chkM (starM x x.length) := by simp [starV, hs, hb]
  rw [e]; clear e
  have hck : ∀ p, chkM p = if allM p then (p, 0) else ([], 3) := fun _ => rfl
  rw [hck]; clear hck
  have Hb := Lib.hid hb
  have heb := (starM_ebd (isSq_abd hs) hb).mono (show (1000000000000000 : Int) ≤ 4000000000000000000 by omega)
  have HB := Lib.hid heb
  have hlen : (starM x x.length).length = x.length := mkMat_len _ _ _
  have him : isMat (starM x x.length) = allM (starM x x.length) := isMat_mk _ hl1 hl2 hl1 hl2
  clear hb heb
  cases h4 : allM (starM x x.length)
  · rw [h4] at him
    go_enter Try.func41, Try.ntmps41
    go_wp2_with fail
    refine (asB hs (isSquare_c _ _ _ _ hx)).mono ?_
    rintro e w1 ⟨rfl, E1⟩
    go_wp2_with fail
    refine (starOf_c _ _ x x.length _ _ (hx.mono E1) (isSq_rect hs).1 hl1 hl2 (isSq_abd hs)).mono ?_
    rintro e w2 ⟨E2, hg1, hg2⟩
    obtain ⟨a2, c2, rfl, hO⟩ := hg1 Hb.out
    clear hg1 hg2
    have hP := hO.mono E1.size
    have EE := E1.trans E2
    have hck := checkedMatrix_c a2 c2 (starM x x.length) w2 hP.mat
    rw [hlen, h4] at hck
    simp only [if_true, Bool.false_eq_true, if_false] at hck
    go_wp2_with fail
    refine hck.mono ?_
    rintro e w4 ⟨rfl, rfl⟩
    clear hck
    go_wp2
    go_ret2
    exact ⟨none, 0, rfl, OwnM.nil _ _, EE⟩
  · rw [h4] at him
    go_enter Try.func41, Try.ntmps41
    go_wp2_with fail
    refine (asB hs (isSquare_c _ _ _ _ hx)).mono ?_
    rintro e w1 ⟨rfl, E1⟩
    go_wp2_with fail
    refine (starOf_c _ _ x x.length _ _ (hx.mono E1) (isSq_rect hs).1 hl1 hl2 (isSq_abd hs)).mono ?_
    rintro e w2 ⟨E2, hg1, hg2⟩
    obtain ⟨a2, c2, rfl, hO⟩ := hg1 Hb.out
    clear hg1 hg2
    have hP := hO.mono E1.size
    have EE := E1.trans E2
    have hck := checkedMatrix_c a2 c2 (starM x x.length) w2 hP.mat
    rw [hlen, h4] at hck
    simp only [if_true, Bool.false_eq_true, if_false] at hck
    go_wp2_with fail
    refine hck.mono ?_
    rintro e w4 ⟨rfl, rfl⟩
    clear hck
    go_wp2
    go_ret2
    refine ⟨a2, c2, ?_, by rw [hlen]; exact hP, EE⟩
    rw [hlen]; rfl

set_option maxHeartbeats 400000 in
theorem implFix_c (a c : Option Addr) (ca cc : Nat) (x : List (List Int)) (b : List Int) (w : World) (hx : MatAt w a x) (hb : IntsAt w c b) : Calls Try.prog 31 #[.slice a x.length ca, .slice c b.length cc] w (GivesI2 w (fixV x b).1 (fixV x b).2) := by
  have hbl := hb.len
  cases hs : isSq x
  · have e : fixV x b = ([], 1) := by simp [fixV, hs]
    rw [e]; clear e
    go_enter Try.func31, Try.ntmps31
    go_wp2_with fail
    refine (asB hs (isSquare_c _ _ _ _ hx)).mono ?_
    rintro e w1 ⟨rfl, E1⟩
    go_wp2
    go_ret2
    exact ⟨none, 0, rfl, OwnI.nil _ _, E1⟩
  obtain ⟨rx, hl1, hl2⟩ := isSq_rect hs
  cases hv : isVec b
  · have e : fixV x b = ([], 1) := by simp [fixV, hv]
    rw [e]; clear e
    go_enter Try.func31, Try.ntmps31
    go_wp2_with fail
    refine (asB hs (isSquare_c _ _ _ _ hx)).mono ?_
    rintro e w1 ⟨rfl, E1⟩
    have hx' := hx.mono E1
    have hb' := hb.mono E1
    go_wp2_with fail
    refine (asB hv (isVector_c _ _ _ _ hb')).mono ?_
    rintro e wv ⟨rfl, rfl⟩
    go_wp2
    go_ret2
    exact ⟨none, 0, rfl, OwnI.nil _ _, E1⟩
  have hvl := isVec_len hv
  have hvb := (isVec_vbd hv).mono (show (1000000000000000 : Int) ≤ 4000000000000000000 by omega)
  have Hv := Lib.hid hv
  have HVB := Lib.hid hvb
  clear hv hvb
  cases hbb : starB (ent x) x.length
  · have e : fixV x b = ([], 5) := by simp [fixV, hs, Hv.out, hbb]
    rw [e]; clear e
    have Hb := Lib.hid hbb
    clear hbb
    go_enter Try.func31, Try.ntmps31
    go_wp2_with fail
    refine (asB hs (isSquare_c _ _ _ _ hx)).mono ?_
    rintro e w1 ⟨rfl, E1⟩
    have hx' := hx.mono E1
    have hb' := hb.mono E1
    go_wp2_with fail
    refine (asB Hv.out (isVector_c _ _ _ _ hb')).mono ?_
    rintro e wv ⟨rfl, rfl⟩
    go_wp2_with fail
    refine (starOf_c _ _ x x.length _ _ hx' (isSq_rect hs).1 hl1 hl2 (isSq_abd hs)).mono ?_
    rintro e w2 ⟨E2, hg1, hg2⟩
    obtain ⟨a2, k2, c2, rfl⟩ := hg2 Hb.out
    clear hg1 hg2
    go_wp2
    go_ret2
    exact ⟨none, 0, rfl, OwnI.nil _ _, E1.trans E2⟩
  by_cases hln : x.length = b.length
  case neg =>
    have e : fixV x b = ([], 5) := by simp [fixV, hs, Hv.out, hln]
    rw [e]; clear e
    have hl' : ((x.length : Int) != (b.length : Int)) = true := by simp; omega
    have Hb := Lib.hid hbb
    clear hln hbb
    go_enter Try.func31, Try.ntmps31
    go_wp2_with fail
    refine (asB hs (isSquare_c _ _ _ _ hx)).mono ?_
    rintro e w1 ⟨rfl, E1⟩
    have hx' := hx.mono E1
    have hb' := hb.mono E1
    go_wp2_with fail
    refine (asB Hv.out (isVector_c _ _ _ _ hb')).mono ?_
    rintro e wv ⟨rfl, rfl⟩
    go_wp2_with fail
    refine (starOf_c _ _ x x.length _ _ hx' (isSq_rect hs).1 hl1 hl2 (isSq_abd hs)).mono ?_
    rintro e w2 ⟨E2, hg1, hg2⟩
    obtain ⟨a2, c2, rfl, hO⟩ := hg1 Hb.out
    clear hg1 hg2
    clear hO
    go_wp2
    go_ret2
    exact ⟨none, 0, rfl, OwnI.nil _ _, E1.trans E2⟩
  have hl' : ((x.length : Int) != (b.length : Int)) = false := by simp [hln]
  have e : fixV x b = chkX (mkRow x.length (appF x.length (starM x x.length) b)) := by unfold fixV; rw [hs, Hv.out, hbb, show (x.length == b.length) = true by simpa using hln]; rfl
  rw [e]; clear e
  have hck : ∀ p, chkX p = if allV p then (p, 0) else ([], 3) := fun _ => rfl
  rw [hck]; clear hck
  have Hb := Lib.hid hbb
  have heb := (starM_ebd (isSq_abd hs) hbb).mono (show (1000000000000000 : Int) ≤ 4000000000000000000 by omega)
  have HB := Lib.hid heb
  have HL := Lib.hid hln
  have hlen : (mkRow x.length (appF x.length (starM x x.length) b)).length = x.length := mkRow_len _ _
  have him : isVec (mkRow x.length (appF x.length (starM x x.length) b)) = allV (mkRow x.length (appF x.length (starM x x.length) b)) := isVec_mk _ hl1 hl2
  clear hbb heb hln
  cases h4 : allV (mkRow x.length (appF x.length (starM x x.length) b))
  · rw [h4] at him
    go_enter Try.func31, Try.ntmps31
    go_wp2_with fail
    refine (asB hs (isSquare_c _ _ _ _ hx)).mono ?_
    rintro e w1 ⟨rfl, E1⟩
    have hx' := hx.mono E1
    have hb' := hb.mono E1
    go_wp2_with fail
    refine (asB Hv.out (isVector_c _ _ _ _ hb')).mono ?_
    rintro e wv ⟨rfl, rfl⟩
    go_wp2_with fail
    refine (starOf_c _ _ x x.length _ _ hx' (isSq_rect hs).1 hl1 hl2 (isSq_abd hs)).mono ?_
    rintro e w2 ⟨E2, hg1, hg2⟩
    obtain ⟨a2, c2, rfl, hO⟩ := hg1 Hb.out
    clear hg1 hg2
    have hap := timesVector_c a2 c c2 cc x.length x.length (starM x x.length) b w2 hO.mat (hb.mono (E1.trans E2)) (starM_rect _ _) HL.out.symm (by omega) (by omega) (by omega) HB.out HVB.out
    rw [starM_len] at hap
    go_wp2_with fail
    refine hap.mono ?_
    rintro e w3 ⟨a3, c3, rfl, hO3, E3⟩
    clear hap
    rw [hlen]
    rw [hlen] at hO3
    have hP := hO3.mono (E1.trans E2).size
    have EE := (E1.trans E2).trans E3
    have hck := checkedVector_c a3 c3 (mkRow x.length (appF x.length (starM x x.length) b)) w3 hP.ints
    rw [hlen, h4] at hck
    simp only [if_true, Bool.false_eq_true, if_false] at hck
    go_wp2_with fail
    refine hck.mono ?_
    rintro e w4 ⟨rfl, rfl⟩
    clear hck
    go_wp2
    go_ret2
    exact ⟨none, 0, rfl, OwnI.nil _ _, EE⟩
  · rw [h4] at him
    go_enter Try.func31, Try.ntmps31
    go_wp2_with fail
    refine (asB hs (isSquare_c _ _ _ _ hx)).mono ?_
    rintro e w1 ⟨rfl, E1⟩
    have hx' := hx.mono E1
    have hb' := hb.mono E1
    go_wp2_with fail
    refine (asB Hv.out (isVector_c _ _ _ _ hb')).mono ?_
    rintro e wv ⟨rfl, rfl⟩
    go_wp2_with fail
    refine (starOf_c _ _ x x.length _ _ hx' (isSq_rect hs).1 hl1 hl2 (isSq_abd hs)).mono ?_
    rintro e w2 ⟨E2, hg1, hg2⟩
    obtain ⟨a2, c2, rfl, hO⟩ := hg1 Hb.out
    clear hg1 hg2
    have hap := timesVector_c a2 c c2 cc x.length x.length (starM x x.length) b w2 hO.mat (hb.mono (E1.trans E2)) (starM_rect _ _) HL.out.symm (by omega) (by omega) (by omega) HB.out HVB.out
    rw [starM_len] at hap
    go_wp2_with fail
    refine hap.mono ?_
    rintro e w3 ⟨a3, c3, rfl, hO3, E3⟩
    clear hap
    rw [hlen]
    rw [hlen] at hO3
    have hP := hO3.mono (E1.trans E2).size
    have EE := (E1.trans E2).trans E3
    have hck := checkedVector_c a3 c3 (mkRow x.length (appF x.length (starM x x.length) b)) w3 hP.ints
    rw [hlen, h4] at hck
    simp only [if_true, Bool.false_eq_true, if_false] at hck
    go_wp2_with fail
    refine hck.mono ?_
    rintro e w4 ⟨rfl, rfl⟩
    clear hck
    go_wp2
    go_ret2
    refine ⟨a3, c3, ?_, by rw [hlen]; exact hP, EE⟩
    rw [hlen]; rfl

set_option maxHeartbeats 400000 in
theorem specFix_c (a c : Option Addr) (ca cc : Nat) (x : List (List Int)) (b : List Int) (w : World) (hx : MatAt w a x) (hb : IntsAt w c b) : Calls Try.prog 32 #[.slice a x.length ca, .slice c b.length cc] w (GivesI2 w (fixV x b).1 (fixV x b).2) := by
  have hbl := hb.len
  cases hs : isSq x
  · have e : fixV x b = ([], 1) := by simp [fixV, hs]
    rw [e]; clear e
    go_enter Try.func32, Try.ntmps32
    go_wp2_with fail
    refine (asB hs (l02Square_c _ _ _ _ hx)).mono ?_
    rintro e w1 ⟨rfl, E1⟩
    replace E1 := E1.ext
    go_wp2
    go_ret2
    exact ⟨none, 0, rfl, OwnI.nil _ _, E1⟩
  obtain ⟨rx, hl1, hl2⟩ := isSq_rect hs
  cases hv : isVec b
  · have e : fixV x b = ([], 1) := by simp [fixV, hv]
    rw [e]; clear e
    go_enter Try.func32, Try.ntmps32
    go_wp2_with fail
    refine (asB hs (l02Square_c _ _ _ _ hx)).mono ?_
    rintro e w1 ⟨rfl, E1⟩
    replace E1 := E1.ext
    have hx' := hx.mono E1
    have hb' := hb.mono E1
    go_wp2_with fail
    refine (asB hv (l02Vector_c _ _ _ _ hb')).mono ?_
    rintro e wv ⟨rfl, rfl⟩
    go_wp2
    go_ret2
    exact ⟨none, 0, rfl, OwnI.nil _ _, E1⟩
  have hvl := isVec_len hv
  have hvb := (isVec_vbd hv).mono (show (1000000000000000 : Int) ≤ 4000000000000000000 by omega)
  have Hv := Lib.hid hv
  have HVB := Lib.hid hvb
  clear hv hvb
  by_cases hln : x.length = b.length
  case neg =>
    have e : fixV x b = ([], 5) := by simp [fixV, hs, Hv.out, hln]
    rw [e]; clear e
    have hl' : ((x.length : Int) != (b.length : Int)) = true := by simp; omega
    clear hln
    go_enter Try.func32, Try.ntmps32
    go_wp2_with fail
    refine (asB hs (l02Square_c _ _ _ _ hx)).mono ?_
    rintro e w1 ⟨rfl, E1⟩
    replace E1 := E1.ext
    have hx' := hx.mono E1
    have hb' := hb.mono E1
    go_wp2_with fail
    refine (asB Hv.out (l02Vector_c _ _ _ _ hb')).mono ?_
    rintro e wv ⟨rfl, rfl⟩
    go_wp2
    go_ret2
    exact ⟨none, 0, rfl, OwnI.nil _ _, E1⟩
  have hl' : ((x.length : Int) != (b.length : Int)) = false := by simp [hln]
  cases hbb : starB (ent x) x.length
  · have e : fixV x b = ([], 5) := by simp [fixV, hs, Hv.out, hbb]
    rw [e]; clear e
    have Hb := Lib.hid hbb
    clear hbb hln
    go_enter Try.func32, Try.ntmps32
    go_wp2_with fail
    refine (asB hs (l02Square_c _ _ _ _ hx)).mono ?_
    rintro e w1 ⟨rfl, E1⟩
    replace E1 := E1.ext
    have hx' := hx.mono E1
    have hb' := hb.mono E1
    go_wp2_with fail
    refine (asB Hv.out (l02Vector_c _ _ _ _ hb')).mono ?_
    rintro e wv ⟨rfl, rfl⟩
    go_wp2_with fail
    refine (l03Star_c _ _ x x.length _ _ hx' (isSq_rect hs).1 hl1 hl2 (isSq_abd hs)).mono ?_
    rintro e w2 ⟨E2, hg1, hg2⟩
    obtain ⟨a2, k2, c2, rfl⟩ := hg2 Hb.out
    clear hg1 hg2
    go_wp2
    go_ret2
    exact ⟨none, 0, rfl, OwnI.nil _ _, E1.trans E2⟩
  have e : fixV x b = chkX (mkRow x.length (appF x.length (starM x x.length) b)) := by unfold fixV; rw [hs, Hv.out, hbb, show (x.length == b.length) = true by simpa using hln]; rfl
  rw [e]; clear e
  have hck : ∀ p, chkX p = if allV p then (p, 0) else ([], 3) := fun _ => rfl
  rw [hck]; clear hck
  have Hb := Lib.hid hbb
  have heb := (starM_ebd (isSq_abd hs) hbb).mono (show (1000000000000000 : Int) ≤ 4000000000000000000 by omega)
  have HB := Lib.hid heb
  have HL := Lib.hid hln
  have hlen : (mkRow x.length (appF x.length (starM x x.length) b)).length = x.length := mkRow_len _ _
  have him : isVec (mkRow x.length (appF x.length (starM x x.length) b)) = allV (mkRow x.length (appF x.length (starM x x.length) b)) := isVec_mk _ hl1 hl2
  clear hbb heb hln
  cases h4 : allV (mkRow x.length (appF x.length (starM x x.length) b))
  · rw [h4] at him
    go_enter Try.func32, Try.ntmps32
    go_wp2_with fail
    refine (asB hs (l02Square_c _ _ _ _ hx)).mono ?_
    rintro e w1 ⟨rfl, E1⟩
    replace E1 := E1.ext
    have hx' := hx.mono E1
    have hb' := hb.mono E1
    go_wp2_with fail
    refine (asB Hv.out (l02Vector_c _ _ _ _ hb')).mono ?_
    rintro e wv ⟨rfl, rfl⟩
    go_wp2_with fail
    refine (l03Star_c _ _ x x.length _ _ hx' (isSq_rect hs).1 hl1 hl2 (isSq_abd hs)).mono ?_
    rintro e w2 ⟨E2, hg1, hg2⟩
    obtain ⟨a2, c2, rfl, hO⟩ := hg1 Hb.out
    clear hg1 hg2
    have hap := l02Apply_c a2 c c2 cc x.length x.length (starM x x.length) b w2 hO.mat (hb.mono (E1.trans E2)) (starM_rect _ _) HL.out.symm (by omega) (by omega) (by omega) HB.out HVB.out
    rw [starM_len] at hap
    go_wp2_with fail
    refine hap.mono ?_
    rintro e w3 ⟨a3, c3, rfl, hO3, E3⟩
    clear hap
    rw [hlen]
    rw [hlen] at hO3
    have hP := hO3.mono (E1.trans E2).size
    have EE := (E1.trans E2).trans E3
    have hck := l02Vector_c a3 c3 (mkRow x.length (appF x.length (starM x x.length) b)) w3 hP.ints
    rw [hlen, him] at hck
    go_wp2_with fail
    refine hck.mono ?_
    rintro e w4 ⟨rfl, rfl⟩
    clear hck
    go_wp2
    go_ret2
    exact ⟨none, 0, rfl, OwnI.nil _ _, EE⟩
  · rw [h4] at him
    go_enter Try.func32, Try.ntmps32
    go_wp2_with fail
    refine (asB hs (l02Square_c _ _ _ _ hx)).mono ?_
    rintro e w1 ⟨rfl, E1⟩
    replace E1 := E1.ext
    have hx' := hx.mono E1
    have hb' := hb.mono E1
    go_wp2_with fail
    refine (asB Hv.out (l02Vector_c _ _ _ _ hb')).mono ?_
    rintro e wv ⟨rfl, rfl⟩
    go_wp2_with fail
    refine (l03Star_c _ _ x x.length _ _ hx' (isSq_rect hs).1 hl1 hl2 (isSq_abd hs)).mono ?_
    rintro e w2 ⟨E2, hg1, hg2⟩
    obtain ⟨a2, c2, rfl, hO⟩ := hg1 Hb.out
    clear hg1 hg2
    have hap := l02Apply_c a2 c c2 cc x.length x.length (starM x x.length) b w2 hO.mat (hb.mono (E1.trans E2)) (starM_rect _ _) HL.out.symm (by omega) (by omega) (by omega) HB.out HVB.out
    rw [starM_len] at hap
    go_wp2_with fail
    refine hap.mono ?_
    rintro e w3 ⟨a3, c3, rfl, hO3, E3⟩
    clear hap
    rw [hlen]
    rw [hlen] at hO3
    have hP := hO3.mono (E1.trans E2).size
    have EE := (E1.trans E2).trans E3
    have hck := l02Vector_c a3 c3 (mkRow x.length (appF x.length (starM x x.length) b)) w3 hP.ints
    rw [hlen, him] at hck
    go_wp2_with fail
    refine hck.mono ?_
    rintro e w4 ⟨rfl, rfl⟩
    clear hck
    go_wp2
    go_ret2
    refine ⟨a3, c3, ?_, by rw [hlen]; exact hP, EE⟩
    rw [hlen]; rfl

/-- what potentialOf hands back -/
def PotPost (x : List (List Int)) (num den : Int) (w : World) (e : Ending) (w' : World) : Prop :=
  Ext w w' ∧ (starB (ent (shiftM x num den)) x.length = true → ∃ a cap, e = .returned (.tuple #[.slice a x.length cap, .bool true]) ∧ OwnI w' w.heap.size (.slice a x.length cap) (mkRow x.length (appF x.length (starM (shiftM x num den) x.length) (zeros x.length)))) ∧
    (starB (ent (shiftM x num den)) x.length = false → ∃ a k cap, e = .returned (.tuple #[.slice a k cap, .bool false]))
theorem shiftM_len (x : List (List Int)) (num den : Int) : (shiftM x num den).length = x.length := mkMat_len _ _ _
theorem zeros_len (n : Nat) : (zeros n).length = n := by simp [zeros]

set_option maxHeartbeats 400000 in
theorem potentialOf_c (a : Option Addr) (ca : Nat) (x : List (List Int)) (num den : Int) (w : World) (hx : MatAt w a x) (hs : isSq x = true) (hn : -1000000 ≤ num ∧ num ≤ 1000000) (hd : -1000000 ≤ den ∧ den ≤ 1000000) :
    Calls Try.prog 116 #[.slice a x.length ca, .agg #[.int .i64 num, .int .i64 den]] w (PotPost x num den w) := by
  obtain ⟨rx, hl1, hl2⟩ := isSq_rect hs
  obtain ⟨W, hW, HB, hs2, hE0⟩ := alloc2_facts w (.int .i64 num) (.int .i64 den) 55
  obtain ⟨c0, c1, -, -⟩ := HB
  have hmk := run_make_row' (P := Try.prog) 34 2 (.int .i64 0) 8 Try.underlying34 info_i rfl .i64 .i64 x.length (by omega) (by omega)
  have hA := shiftM_abd hs hn hd
  have HX := Lib.hid (And.intro hx (And.intro hs hA))
  rw [show (PotPost x num den w) = fun e w' => (Ext w w' ∧ (starB (ent (shiftM x num den)) x.length = true → ∃ a cap, e = .returned (.tuple #[.slice a x.length cap, .bool true]) ∧ OwnI w' w.heap.size (.slice a x.length cap) (mkRow x.length (appF x.length (starM (shiftM x num den) x.length) (zeros x.length)))) ∧
    (starB (ent (shiftM x num den)) x.length = false → ∃ a k cap, e = .returned (.tuple #[.slice a k cap, .bool false]))) from rfl]
  clear hx hs hA rx
  cases hb : starB (ent (shiftM x num den)) x.length
  · have Hb := Lib.hid hb
    clear hb
    go_enter Try.func116, Try.ntmps116
    go_wp2_with fail
    refine (shifted_c _ _ _ _ _ _ (HX.out.1.mono hE0) HX.out.2.1 hn hd).mono ?_
    rintro e w1 ⟨a1, k1, rfl, hO1, E1⟩
    go_wp2_with fail
    refine (starOf_c _ _ (shiftM x num den) x.length _ _ hO1.mat (shiftM_rect _ _ _) hl1 hl2 HX.out.2.2).mono ?_
    rintro e w2 ⟨E2, hg1, hg2⟩
    obtain ⟨a2, k2, c2, rfl⟩ := hg2 Hb.out
    clear hg1 hg2 c0 c1
    go_wp2
    go_ret2
    exact ⟨(hE0.trans E1).trans E2, fun h => (by cases h), fun _ => ⟨none, 0, 0, rfl⟩⟩
  · have Hb := Lib.hid hb
    have heb := (starM_ebd HX.out.2.2 hb).mono (show (1000000000000000 : Int) ≤ 4000000000000000000 by omega)
    have HB := Lib.hid heb
    clear hb heb
    go_enter Try.func116, Try.ntmps116
    go_wp2_with fail
    refine (shifted_c _ _ _ _ _ _ (HX.out.1.mono hE0) HX.out.2.1 hn hd).mono ?_
    rintro e w1 ⟨a1, k1, rfl, hO1, E1⟩
    go_wp2_with fail
    refine (starOf_c _ _ (shiftM x num den) x.length _ _ hO1.mat (shiftM_rect _ _ _) hl1 hl2 HX.out.2.2).mono ?_
    rintro e w2 ⟨E2, hg1, hg2⟩
    obtain ⟨a2, c2, rfl, hO2⟩ := hg1 Hb.out
    clear hg1 hg2 c0 c1
    have hO3 := OwnI.made w2 w2.heap.size x.length (Nat.le_refl _) (by omega)
    have hE3 := (Ext.refl w2).alloc (.cells (madeCells #[.int .i64 0] x.length) 2)
    obtain ⟨W3, hW3⟩ : ∃ W3, w2.alloc (.cells (madeCells #[.int .i64 0] x.length) 2) = W3 := ⟨_, rfl⟩
    rw [hW3] at hO3 hE3
    have hap := timesVector_c a2 (some ⟨w2.heap.size, 0, none⟩) c2 x.length x.length x.length (starM (shiftM x num den) x.length) (zeros x.length) W3 (hO2.ext hE3).mat hO3.ints (starM_rect _ _) (zeros_len _) (by omega) (by omega) (by omega) HB.out ((zeros_vbd _).mono (by omega))
    rw [starM_len, zeros_len] at hap
    clear hO3
    go_wp2_with fail
    refine hap.mono ?_
    rintro e w4 ⟨a4, c4, rfl, hO4, E4⟩
    rw [mkRow_len]
    rw [mkRow_len] at hO4
    have EE := ((hE0.trans E1).trans E2).trans hE3
    clear hap hmk hW3
    go_wp2
    go_ret2
    exact ⟨EE.trans E4, fun _ => ⟨a4, c4, rfl, hO4.mono EE.size⟩, fun h => by cases h⟩

set_option maxHeartbeats 400000 in
theorem implPotOf_c (a : Option Addr) (ca : Nat) (x : List (List Int)) (num den : Int) (w : World) (hx : MatAt w a x) : Calls Try.prog 52 #[.slice a x.length ca, .agg #[.int .i64 num, .int .i64 den]] w (GivesI2 w (potV x (num, den)).1 (potV x (num, den)).2) := by
  obtain ⟨W, hW, HBx, hs2, hE0⟩ := alloc2_facts w (.int .i64 num) (.int .i64 den) 55
  obtain ⟨c0, c1, -, -⟩ := HBx
  have HX := Lib.hid hx
  clear hx
  cases hs : isSq x
  · have e : potV x (num, den) = ([], 1) := by simp [potV, hs]
    rw [e]; clear e
    go_enter Try.func52, Try.ntmps52
    go_wp2_with fail
    refine (asB hs (isSquare_c _ _ _ _ (HX.out.mono hE0))).mono ?_
    rintro e w1 ⟨rfl, E1⟩
    go_wp2
    go_ret2
    exact ⟨none, 0, rfl, OwnI.nil _ _, hE0.trans E1⟩
  obtain ⟨rx, hl1, hl2⟩ := isSq_rect hs
  cases hr : isRat (num, den)
  · have e : potV x (num, den) = ([], 1) := by simp [potV, hr]
    rw [e]; clear e
    go_enter Try.func52, Try.ntmps52
    go_wp2_with fail
    refine (asB hs (isSquare_c _ _ _ _ (HX.out.mono hE0))).mono ?_
    rintro e w1 ⟨rfl, E1⟩
    replace c0 := E1.cell c0
    replace c1 := E1.cell c1
    go_wp2_with fail
    refine (asB hr (isRatio_c _ _ _)).mono ?_
    rintro e wr ⟨rfl, ER⟩
    replace c0 := ER.cell c0
    replace c1 := ER.cell c1
    have E := (hE0.trans E1).trans ER
    go_wp2
    go_ret2
    exact ⟨none, 0, rfl, OwnI.nil _ _, E⟩
  obtain ⟨hb1, hb2⟩ := isRat_bd2 hr
  simp only at hb1 hb2
  have hd : -1000000 ≤ den ∧ den ≤ 1000000 := by omega
  have HA := Lib.hid (shiftM_abd hs hb1 hd)
  have hlen : (mkRow x.length (appF x.length (starM (shiftM x num den) x.length) (zeros x.length))).length = x.length := mkRow_len _ _
  cases hb : starB (ent (shiftM x num den)) x.length
  · have e : potV x (num, den) = ([], 5) := by simp [potV, hs, hr, hb]
    rw [e]; clear e
    have Hb := Lib.hid hb
    clear hb
    go_enter Try.func52, Try.ntmps52
    go_wp2_with fail
    refine (asB hs (isSquare_c _ _ _ _ (HX.out.mono hE0))).mono ?_
    rintro e w1 ⟨rfl, E1⟩
    replace c0 := E1.cell c0
    replace c1 := E1.cell c1
    go_wp2_with fail
    refine (asB hr (isRatio_c _ _ _)).mono ?_
    rintro e wr ⟨rfl, ER⟩
    replace c0 := ER.cell c0
    replace c1 := ER.cell c1
    have E := (hE0.trans E1).trans ER
    go_wp2_with fail
    refine (potentialOf_c _ _ x num den _ (HX.out.mono E) hs hb1 hd).mono ?_
    rintro e w2 ⟨E2, hg1, hg2⟩
    obtain ⟨a2, k2, c2, rfl⟩ := hg2 Hb.out
    clear hg1 hg2 c0 c1
    have EE := E.trans E2
    go_wp2
    go_ret2
    exact ⟨none, 0, rfl, OwnI.nil _ _, EE⟩
  have e : potV x (num, den) = chkX (mkRow x.length (appF x.length (starM (shiftM x num den) x.length) (zeros x.length))) := by simp [potV, hs, hr, hb]
  rw [e]; clear e
  have hck : ∀ p, chkX p = if allV p then (p, 0) else ([], 3) := fun _ => rfl
  rw [hck]; clear hck
  have hall := pot_all HA.out hb
  have heb := (starM_ebd HA.out hb).mono (show (1000000000000000 : Int) ≤ 4000000000000000000 by omega)
  have HEB := Lib.hid heb
  have Hb := Lib.hid hb
  have HAll := Lib.hid hall
  have hmk := run_make_row' (P := Try.prog) 34 2 (.int .i64 0) 8 Try.underlying34 info_i rfl .i64 .i64 x.length (by omega) (by omega)
  clear hb hall heb
  cases h4 : allV (mkRow x.length (appF x.length (starM (shiftM x num den) x.length) (zeros x.length)))
  · go_enter Try.func52, Try.ntmps52
    go_wp2_with fail
    refine (asB hs (isSquare_c _ _ _ _ (HX.out.mono hE0))).mono ?_
    rintro e w1 ⟨rfl, E1⟩
    replace c0 := E1.cell c0
    replace c1 := E1.cell c1
    go_wp2_with fail
    refine (asB hr (isRatio_c _ _ _)).mono ?_
    rintro e wr ⟨rfl, ER⟩
    replace c0 := ER.cell c0
    replace c1 := ER.cell c1
    have E := (hE0.trans E1).trans ER
    go_wp2_with fail
    refine (potentialOf_c _ _ x num den _ (HX.out.mono E) hs hb1 hd).mono ?_
    rintro e w2 ⟨E2, hg1, hg2⟩
    obtain ⟨a2, c2, rfl, hO⟩ := hg1 Hb.out
    clear hg1 hg2 c0 c1
    have EE := E.trans E2
    have hP := hO.mono E.size
    have hck := checkedVector_c a2 c2 (mkRow x.length (appF x.length (starM (shiftM x num den) x.length) (zeros x.length))) w2 hP.ints
    rw [hlen, h4] at hck
    simp only [if_true, Bool.false_eq_true, if_false] at hck
    go_wp2_with fail
    refine hck.mono ?_
    rintro e w4 ⟨rfl, rfl⟩
    clear hck
    go_wp2
    go_ret2
    exact ⟨none, 0, rfl, OwnI.nil _ _, EE⟩
  · go_enter Try.func52, Try.ntmps52
    go_wp2_with fail
    refine (asB hs (isSquare_c _ _ _ _ (HX.out.mono hE0))).mono ?_
    rintro e w1 ⟨rfl, E1⟩
    replace c0 := E1.cell c0
    replace c1 := E1.cell c1
    go_wp2_with fail
    refine (asB hr (isRatio_c _ _ _)).mono ?_
    rintro e wr ⟨rfl, ER⟩
    replace c0 := ER.cell c0
    replace c1 := ER.cell c1
    have E := (hE0.trans E1).trans ER
    go_wp2_with fail
    refine (potentialOf_c _ _ x num den _ (HX.out.mono E) hs hb1 hd).mono ?_
    rintro e w2 ⟨E2, hg1, hg2⟩
    obtain ⟨a2, c2, rfl, hO⟩ := hg1 Hb.out
    clear hg1 hg2 c0 c1
    have EE := E.trans E2
    have hP := hO.mono E.size
    have hck := checkedVector_c a2 c2 (mkRow x.length (appF x.length (starM (shiftM x num den) x.length) (zeros x.length))) w2 hP.ints
    rw [hlen, h4] at hck
    simp only [if_true, Bool.false_eq_true, if_false] at hck
    go_wp2_with fail
    refine hck.mono ?_
    rintro e w4 ⟨rfl, rfl⟩
    clear hck
    go_wp2
    go_ret2
    refine ⟨a2, c2, ?_, by rw [hlen]; exact hP, EE⟩
    rw [hlen]; rfl

set_option maxHeartbeats 400000 in
theorem specPotOf_c (a : Option Addr) (ca : Nat) (x : List (List Int)) (num den : Int) (w : World) (hx : MatAt w a x) : Calls Try.prog 53 #[.slice a x.length ca, .agg #[.int .i64 num, .int .i64 den]] w (GivesI2 w (potV x (num, den)).1 (potV x (num, den)).2) := by
  obtain ⟨W, hW, HBx, hs2, hE0⟩ := alloc2_facts w (.int .i64 num) (.int .i64 den) 55
  obtain ⟨c0, c1, -, -⟩ := HBx
  have HX := Lib.hid hx
  clear hx
  cases hs : isSq x
  · have e : potV x (num, den) = ([], 1) := by simp [potV, hs]
    rw [e]; clear e
    go_enter Try.func53, Try.ntmps53
    go_wp2_with fail
    refine (asB hs (l02Square_c _ _ _ _ (HX.out.mono hE0))).mono ?_
    rintro e w1 ⟨rfl, E1⟩
    replace E1 := E1.ext
    go_wp2
    go_ret2
    exact ⟨none, 0, rfl, OwnI.nil _ _, hE0.trans E1⟩
  obtain ⟨rx, hl1, hl2⟩ := isSq_rect hs
  cases hr : isRat (num, den)
  · have e : potV x (num, den) = ([], 1) := by simp [potV, hr]
    rw [e]; clear e
    go_enter Try.func53, Try.ntmps53
    go_wp2_with fail
    refine (asB hs (l02Square_c _ _ _ _ (HX.out.mono hE0))).mono ?_
    rintro e w1 ⟨rfl, E1⟩
    replace E1 := E1.ext
    replace c0 := E1.cell c0
    replace c1 := E1.cell c1
    go_wp2_with fail
    refine (asB hr (sIsRatio_c _ _ _)).mono ?_
    rintro e wr ⟨rfl, ER⟩
    replace c0 := ER.cell c0
    replace c1 := ER.cell c1
    have E := (hE0.trans E1).trans ER
    go_wp2
    go_ret2
    exact ⟨none, 0, rfl, OwnI.nil _ _, E⟩
  obtain ⟨hb1, hb2⟩ := isRat_bd2 hr
  simp only at hb1 hb2
  have hd : -1000000 ≤ den ∧ den ≤ 1000000 := by omega
  have HA := Lib.hid (shiftM_abd hs hb1 hd)
  have hlen : (mkRow x.length (appF x.length (starM (shiftM x num den) x.length) (zeros x.length))).length = x.length := mkRow_len _ _
  cases hb : starB (ent (shiftM x num den)) x.length
  · have e : potV x (num, den) = ([], 5) := by simp [potV, hs, hr, hb]
    rw [e]; clear e
    have Hb := Lib.hid hb
    clear hb
    go_enter Try.func53, Try.ntmps53
    go_wp2_with fail
    refine (asB hs (l02Square_c _ _ _ _ (HX.out.mono hE0))).mono ?_
    rintro e w1 ⟨rfl, E1⟩
    replace E1 := E1.ext
    replace c0 := E1.cell c0
    replace c1 := E1.cell c1
    go_wp2_with fail
    refine (asB hr (sIsRatio_c _ _ _)).mono ?_
    rintro e wr ⟨rfl, ER⟩
    replace c0 := ER.cell c0
    replace c1 := ER.cell c1
    have E := (hE0.trans E1).trans ER
    go_wp2_with fail
    refine (l04Shift_c _ _ _ _ _ _ (HX.out.mono E) hs hb1 hd).mono ?_
    rintro e w1s ⟨a1, k1, rfl, hO1, E1s⟩
    go_wp2_with fail
    refine (l03Star_c _ _ (shiftM x num den) x.length _ _ hO1.mat (shiftM_rect _ _ _) hl1 hl2 HA.out).mono ?_
    rintro e w2 ⟨E2, hg1, hg2⟩
    obtain ⟨a2, k2, c2, rfl⟩ := hg2 Hb.out
    clear hg1 hg2 c0 c1
    have EE := (E.trans E1s).trans E2
    go_wp2
    go_ret2
    exact ⟨none, 0, rfl, OwnI.nil _ _, EE⟩
  have e : potV x (num, den) = chkX (mkRow x.length (appF x.length (starM (shiftM x num den) x.length) (zeros x.length))) := by simp [potV, hs, hr, hb]
  rw [e]; clear e
  have hck : ∀ p, chkX p = if allV p then (p, 0) else ([], 3) := fun _ => rfl
  rw [hck]; clear hck
  have hall := pot_all HA.out hb
  have heb := (starM_ebd HA.out hb).mono (show (1000000000000000 : Int) ≤ 4000000000000000000 by omega)
  have HEB := Lib.hid heb
  have Hb := Lib.hid hb
  have HAll := Lib.hid hall
  have hmk := run_make_row' (P := Try.prog) 34 2 (.int .i64 0) 8 Try.underlying34 info_i rfl .i64 .i64 x.length (by omega) (by omega)
  clear hb hall heb
  cases h4 : allV (mkRow x.length (appF x.length (starM (shiftM x num den) x.length) (zeros x.length)))
  · go_enter Try.func53, Try.ntmps53
    go_wp2_with fail
    refine (asB hs (l02Square_c _ _ _ _ (HX.out.mono hE0))).mono ?_
    rintro e w1 ⟨rfl, E1⟩
    replace E1 := E1.ext
    replace c0 := E1.cell c0
    replace c1 := E1.cell c1
    go_wp2_with fail
    refine (asB hr (sIsRatio_c _ _ _)).mono ?_
    rintro e wr ⟨rfl, ER⟩
    replace c0 := ER.cell c0
    replace c1 := ER.cell c1
    have E := (hE0.trans E1).trans ER
    go_wp2_with fail
    refine (l04Shift_c _ _ _ _ _ _ (HX.out.mono E) hs hb1 hd).mono ?_
    rintro e w1s ⟨a1, k1, rfl, hO1, E1s⟩
    go_wp2_with fail
    refine (l03Star_c _ _ (shiftM x num den) x.length _ _ hO1.mat (shiftM_rect _ _ _) hl1 hl2 HA.out).mono ?_
    rintro e w2 ⟨E2, hg1, hg2⟩
    obtain ⟨a2, c2, rfl, hO⟩ := hg1 Hb.out
    clear hg1 hg2 c0 c1
    have EE := (E.trans E1s).trans E2
    have hO3 := OwnI.made w2 w2.heap.size x.length (Nat.le_refl _) (by omega)
    have hE3 := (Ext.refl w2).alloc (.cells (madeCells #[.int .i64 0] x.length) 2)
    obtain ⟨W3, hW3⟩ : ∃ W3, w2.alloc (.cells (madeCells #[.int .i64 0] x.length) 2) = W3 := ⟨_, rfl⟩
    rw [hW3] at hO3 hE3
    have hap := l02Apply_c a2 (some ⟨w2.heap.size, 0, none⟩) c2 x.length x.length x.length (starM (shiftM x num den) x.length) (zeros x.length) W3 (hO.ext hE3).mat hO3.ints (starM_rect _ _) (zeros_len _) (by omega) (by omega) (by omega) HEB.out ((zeros_vbd _).mono (by omega))
    rw [starM_len, zeros_len] at hap
    clear hO3
    go_wp2_with fail
    refine hap.mono ?_
    rintro e w4 ⟨a4, c4, rfl, hO4, E4⟩
    rw [hlen]
    rw [hlen] at hO4
    replace EE := EE.trans hE3
    have hP := hO4.mono EE.size
    replace EE := EE.trans E4
    have hck := l01AllF_c a4 c4 (mkRow x.length (appF x.length (starM (shiftM x num den) x.length) (zeros x.length))) w4 hP.ints
    rw [hlen, HAll.out, h4] at hck
    clear hap hmk hW3
    go_wp2_with fail
    refine hck.mono ?_
    rintro e w5 ⟨rfl, rfl⟩
    clear hck
    go_wp2
    go_ret2
    exact ⟨none, 0, rfl, OwnI.nil _ _, EE⟩
  · go_enter Try.func53, Try.ntmps53
    go_wp2_with fail
    refine (asB hs (l02Square_c _ _ _ _ (HX.out.mono hE0))).mono ?_
    rintro e w1 ⟨rfl, E1⟩
    replace E1 := E1.ext
    replace c0 := E1.cell c0
    replace c1 := E1.cell c1
    go_wp2_with fail
    refine (asB hr (sIsRatio_c _ _ _)).mono ?_
    rintro e wr ⟨rfl, ER⟩
    replace c0 := ER.cell c0
    replace c1 := ER.cell c1
    have E := (hE0.trans E1).trans ER
    go_wp2_with fail
    refine (l04Shift_c _ _ _ _ _ _ (HX.out.mono E) hs hb1 hd).mono ?_
    rintro e w1s ⟨a1, k1, rfl, hO1, E1s⟩
    go_wp2_with fail
    refine (l03Star_c _ _ (shiftM x num den) x.length _ _ hO1.mat (shiftM_rect _ _ _) hl1 hl2 HA.out).mono ?_
    rintro e w2 ⟨E2, hg1, hg2⟩
    obtain ⟨a2, c2, rfl, hO⟩ := hg1 Hb.out
    clear hg1 hg2 c0 c1
    have EE := (E.trans E1s).trans E2
    have hO3 := OwnI.made w2 w2.heap.size x.length (Nat.le_refl _) (by omega)
    have hE3 := (Ext.refl w2).alloc (.cells (madeCells #[.int .i64 0] x.length) 2)
    obtain ⟨W3, hW3⟩ : ∃ W3, w2.alloc (.cells (madeCells #[.int .i64 0] x.length) 2) = W3 := ⟨_, rfl⟩
    rw [hW3] at hO3 hE3
    have hap := l02Apply_c a2 (some ⟨w2.heap.size, 0, none⟩) c2 x.length x.length x.length (starM (shiftM x num den) x.length) (zeros x.length) W3 (hO.ext hE3).mat hO3.ints (starM_rect _ _) (zeros_len _) (by omega) (by omega) (by omega) HEB.out ((zeros_vbd _).mono (by omega))
    rw [starM_len, zeros_len] at hap
    clear hO3
    go_wp2_with fail
    refine hap.mono ?_
    rintro e w4 ⟨a4, c4, rfl, hO4, E4⟩
    rw [hlen]
    rw [hlen] at hO4
    replace EE := EE.trans hE3
    have hP := hO4.mono EE.size
    replace EE := EE.trans E4
    have hck := l01AllF_c a4 c4 (mkRow x.length (appF x.length (starM (shiftM x num den) x.length) (zeros x.length))) w4 hP.ints
    rw [hlen, HAll.out, h4] at hck
    clear hap hmk hW3
    go_wp2_with fail
    refine hck.mono ?_
    rintro e w5 ⟨rfl, rfl⟩
    clear hck
    go_wp2
    go_ret2
    refine ⟨a4, c4, ?_, by rw [hlen]; exact hP, EE⟩
    rw [hlen]; rfl

end Go.Proofs.Ytokhkpbebimohaa
