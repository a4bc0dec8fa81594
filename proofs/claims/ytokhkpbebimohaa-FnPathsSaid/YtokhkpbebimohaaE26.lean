/- Contract of HeaviestPath, the reference's. Conditions: the forms of the matrices. -/
import Derived.Test.YtokhkpbebimohaaE25
import Derived.Deep.CutRange
namespace Go.Proofs.Ytokhkpbebimohaa
set_option linter.unusedVariables false
set_option linter.unusedSimpArgs false
open Go.RowKit

theorem info_m : (Try.prog.info? 24).map (fun i => (i.zero, i.size, i.bytes)) = some (some (.slice none 0 0), 1, 24) := by kernel_rfl
/-- a slice of new memory that holds matrices, however they lie -/
def OwnX (w : World) (B : Nat) (v : Value) (vals : List Value) : Prop := w.ownsRow B 24 1 v vals.length vals
theorem OwnX.ext {w w' : World} {B : Nat} {v : Value} {vals : List Value} (h : OwnX w B v vals) (e : Ext w w') : OwnX w' B v vals := by
  refine ⟨h.1, ?_⟩
  rcases h.2 with h2 | ⟨g, cap, cur, h1, h2, h3, h4⟩
  · exact .inl h2
  · exact .inr ⟨g, cap, cur, h1, h2, by rw [Below.block e g (Array.getElem?_eq_some_iff.1 h3).1]; exact h3, h4⟩
theorem OwnX.base {w : World} {B : Nat} {v : Value} {vals : List Value} (h : OwnX w B v vals) : ∀ k, v.ownBlock = some k → B ≤ k := fun k hk => (World.ownsRow.lt h k hk).1
theorem OwnX.open {w : World} {B n cap : Nat} {a : Option Addr} {vals : List Value} (h : OwnX w B (.slice a n cap) vals) (h0 : 0 < vals.length) :
    ∃ g, a = some ⟨g, 0, none⟩ ∧ ∀ i v, vals[i]? = some v → w.cell? ⟨g, i, none⟩ = some v := by
  rcases h.2 with ⟨_, h2⟩ | ⟨g, cap', cur, h1, h2, h3, h4, h5, h6, h7⟩
  · rw [h2] at h0; exact absurd h0 (Nat.lt_irrefl _)
  · simp only [Value.slice.injEq] at h1
    refine ⟨g, h1.1, fun i v hv => ?_⟩
    have hl : i < vals.length := by
      rcases Nat.lt_or_ge i vals.length with h | h
      · exact h
      · rw [List.getElem?_eq_none (by omega)] at hv; cases hv
    have e : (cur.toList.take (vals.length * 1))[i]? = vals[i]? := by rw [h7]
    rw [List.getElem?_take, if_pos (by omega), Array.getElem?_toList, hv] at e
    simp [World.cell?, h3, e]
/-- append of one matrix -/
theorem app_x {ops : Array Oper} {rest : List Oper} {o : Oper} {a : Act} {Q : Exit → Act → World → Prop} {w : World} (hgd : o.guard = none) (s x : Operand)
    (ho : o.op = .call { callee := .builtin .append, args := #[s, x], argTypes := #[95, 95] })
    (B : Nat) (v : Value) (vals : List Value) (hs : a.eval s = v) (hown : OwnX w B v vals) (ad : Addr) (c : Nat) (ar : Option Addr) (lr cr : Nat) (hx : a.eval x = .slice (some ad) 1 c)
    (hc : w.cell? ad = some (.slice ar lr cr)) (hl : vals.length ≤ 1000000000) (hB : B ≤ w.heap.size)
    (h : ∀ v' w', OwnX w' B v' (vals ++ [.slice ar lr cr]) → w.grownBy w' v.ownBlock → (∃ a' c', v' = .slice a' (vals.length + 1) c') → wpList Try.prog ops Q rest (a.put o.dst v') w') : wpList Try.prog ops Q (o :: rest) a w := by
  obtain ⟨i0, hi, hz0, hz1, hz2⟩ := info_parts info_m
  refine wpList_append_own w hgd s x 95 ho B 24 i0 (.slice none 0 0) 1 24 Try.underlying95 hi hz0 hz1 hz2 rfl (by decide) v vals.length vals hs hown ad 1 c [.slice ar lr cr] hx rfl ?_ ?_ ?_ ?_ hB ?_
  · intro j u hj
    match j, hj with
    | 0, hj =>
      simp only [List.getElem?_cons_zero, Option.some.injEq] at hj
      subst hj
      have : ad.add 0 = ad := by simp [Addr.add]
      rw [this]; exact hc
  · intro u hu; simp only [List.mem_singleton] at hu; subst hu; rfl
  · have : maxLen = 9223372036854775807 := rfl
    omega
  · omega
  · intro v' w' h1 h2 _
    refine h v' w' ?_ h2 ?_
    · unfold OwnX
      simpa using h1
    · rcases h1.2 with ⟨_, h0⟩ | ⟨g, cap', cur, h3, _⟩
      · omega
      · exact ⟨_, _, h3⟩
theorem ownsRow_keep {w w' : World} {B B' T T' n n' : Nat} {v s : Value} {xs xs' : List Value} (h : w.ownsRow B T 1 v n xs) (hX : w.ownsRow B' T' 1 s n' xs') (hne : T ≠ T') (hg : w.grownBy w' s.ownBlock) : w'.ownsRow B T 1 v n xs := by
  refine ⟨h.1, ?_⟩
  rcases h.2 with h2 | ⟨g, cap, cur, h1, h2, h3, h4⟩
  · exact .inl h2
  · refine .inr ⟨g, cap, cur, h1, h2, ?_, h4⟩
    rw [hg.block g (Array.getElem?_eq_some_iff.1 h3).1 ?_]
    · exact h3
    · intro e
      rcases hX.2 with ⟨h5, _⟩ | ⟨g', cap', cur', h5, _, h6, _⟩
      · rw [h5] at e; simp [Value.ownBlock] at e
      · rw [h5] at e
        simp only [Value.ownBlock, Option.some.injEq] at e
        subst e
        rw [h3] at h6
        simp only [Option.some.injEq, Obj.cells.injEq] at h6
        exact hne h6.2.1
theorem OwnM.keepX {w w' : World} {B B' : Nat} {v s : Value} {m : List (List Int)} {vals : List Value} (h : OwnM w B v m) (hX : OwnX w B' s vals) (hg : w.grownBy w' s.ownBlock) : OwnM w' B v m := by
  obtain ⟨A, C, h1, h2, h3, -⟩ := h.hdr
  exact OwnM.of_hdr (ownsRow_keep h1 hX (by decide) hg) (fun i hi => ownsRow_keep (h2 i hi) hX (by decide) hg) h3
theorem pw_ebd {x : List (List Int)} {n : Nat} (h : ABd (ent x) n 1000000) {k : Nat} (hk : k ≤ 1000) : EBd 4000000000000000000 (pw x n k) := by
  have e : pw x n k = mkMat n n fun i j => lk (ent x) n i k j := mkMat_eq (pw_rect x n k).1 (pw_rect x n k).2 fun i j hi hj => pw_ent x hi k hj
  rw [e]
  refine ebd_mk (by omega) fun i j hi hj => ?_
  rcases lk_bd h (u := i) k j with e | e
  · rw [e]; omega
  · omega
theorem next_unique {g : Nat → Bool} {m k : Nat} (h1 : g m = true) (h2 : ∀ i, i < m → g i = false) (h3 : g k = true) (h4 : ∀ i, i < k → g i = false) : m = k := by
  rcases Nat.lt_trichotomy m k with h | h | h
  · rw [h4 m h] at h1; cases h1
  · exact h
  · rw [h2 k h] at h3; cases h3
/-- the matrices that the reference collects, in memory -/
def PwAt (x : List (List Int)) (w : World) (B : Nat) (vals : List Value) : Prop := ∀ j, j < vals.length → ∃ aj cj, vals[j]? = some (.slice aj x.length cj) ∧ OwnM w B (.slice aj x.length cj) (pw x x.length j)

/-- the smallest place from z on of which g holds, -1 if there is none -/
def LastP (g : Nat → Bool) (n z : Nat) (nz : Int) : Prop := (nz = -1 ∧ ∀ t, z ≤ t → t < n → g t = false) ∨ ∃ m : Nat, nz = (m : Int) ∧ z ≤ m ∧ m < n ∧ g m = true ∧ ∀ t, z ≤ t → t < m → g t = false
theorem LastP.start (g : Nat → Bool) (n : Nat) : LastP g n n (-1) := .inl ⟨rfl, fun t h1 h2 => by omega⟩
theorem LastP.yes {g : Nat → Bool} {n z : Nat} (hz : z < n) (h : g z = true) : LastP g n z (z : Int) := .inr ⟨z, rfl, Nat.le_refl _, hz, h, fun t h1 h2 => by omega⟩
theorem LastP.no {g : Nat → Bool} {n z : Nat} {nz : Int} (h : LastP g n (z + 1) nz) (hg : g z = false) : LastP g n z nz := by
  have key : ∀ t, z ≤ t → t = z ∨ z + 1 ≤ t := fun t h => by omega
  rcases h with ⟨h1, h2⟩ | ⟨m, h1, h2, h3, h4, h5⟩
  · refine .inl ⟨h1, fun t h3 h4 => ?_⟩
    rcases key t h3 with rfl | h
    · exact hg
    · exact h2 t h h4
  · refine .inr ⟨m, h1, by omega, h3, h4, fun t h6 h7 => ?_⟩
    rcases key t h6 with rfl | h
    · exact hg
    · exact h5 t h h7
theorem LastP.done {g : Nat → Bool} {n k : Nat} {nz : Int} (h : LastP g n 0 nz) (hk : k < n) (h1 : g k = true) (h2 : ∀ i, i < k → g i = false) : nz = (k : Int) := by
  rcases h with ⟨_, h3⟩ | ⟨m, e, _, _, h5, h6⟩
  · rw [h3 k (Nat.zero_le _) hk] at h1; cases h1
  · rw [e, next_unique h5 (fun i hi => h6 i (Nat.zero_le _) hi) h1 h2]
theorem times_next {A : Nat → Nat → Int} {n u j v z : Nat} (ha : A z v ≠ -1000000000000000) (hl : lk A n u (j + 1) v ≠ -1000000000000000) : (times (A z v) (lk A n u j z) == lk A n u (j + 1) v) = nextB A n u j v z := by
  rw [Bool.eq_iff_iff, beq_iff_eq, nextB_iff]
  unfold times
  split
  · rename_i h
    rcases h with h | h
    · exact absurd h ha
    · exact ⟨fun e => absurd e.symm hl, fun ⟨_, h2, _⟩ => absurd h h2⟩
  · rename_i h
    rw [not_or] at h
    exact ⟨fun e => ⟨h.1, h.2, e⟩, fun ⟨_, _, e⟩ => e⟩

set_option maxRecDepth 100000 in
set_option maxHeartbeats 4000000 in
theorem specHp_go (a : Option Addr) (ca : Nat) (x : List (List Int)) (f u : Nat) (w : World) (hx : MatAt w a x) (hs : isSq x = true) (hb : starB (ent x) x.length = true) (hf : f < x.length) (hu : u < x.length) (hne : fwS (ent x) x.length u f ≠ -1000000000000000) :
    Calls Try.prog 37 #[.slice a x.length ca, .int .i64 (f : Int), .int .i64 (u : Int)] w (GivesI2 w ((f : Int) :: tailL (ent x) x.length u (hpK (ent x) x.length u f) f) 0) := by
  have hxl := hx.len
  obtain ⟨rx, hl1, hl2⟩ := isSq_rect hs
  have hA := isSq_abd hs
  obtain ⟨hK1, hK2, hK3⟩ := hpK_spec hA hb hl2 hu hf hne
  have hst := fun w' (h : Ext w w') => l03Star_c a ca x x.length _ w' (hx.mono h) rx hl1 hl2 hA
  have HSt := Lib.hid hst
  have HK := Lib.hid (And.intro hK1 (And.intro hK2 hK3))
  have Hb := Lib.hid hb
  have es : ent (starM x x.length) u f = fwS (ent x) x.length u f := mkMat_ent hu hf
  have hif : inR (f : Int) 0 ((x.length : Int) - 1) = true := inR_iff.2 (by omega)
  have hiu : inR (u : Int) 0 ((x.length : Int) - 1) = true := inR_iff.2 (by omega)
  have HX := Lib.hid (And.intro hx (And.intro rx hA))
  obtain ⟨S, hS⟩ : ∃ S, fwS (ent x) x.length u f = S := ⟨_, rfl⟩
  rw [hS] at HK hne es
  have Es := Lib.hid es
  obtain ⟨K, hK⟩ : ∃ K, hpK (ent x) x.length u f = K := ⟨_, rfl⟩
  rw [hK] at HK ⊢
  have HKl := HK.out.1
  rw [show (GivesI2 w ((f : Int) :: tailL (ent x) x.length u K f) 0) = fun e w' => ∃ a cap, e = .returned (.tuple #[.slice a ((f : Int) :: tailL (ent x) x.length u K f).length cap, .int .i64 0]) ∧ OwnI w' w.heap.size (.slice a ((f : Int) :: tailL (ent x) x.length u K f).length cap) ((f : Int) :: tailL (ent x) x.length u K f) ∧ Ext w w' from rfl]
  clear hS hK hst hK1 hK2 hK3 hb hx rx hA es
  go_enter Try.func37, Try.ntmps37
  go_wp2_with fail
  refine (asB hs (l02Square_c _ _ _ _ HX.out.1)).mono ?_
  rintro e w1 ⟨rfl, q1⟩
  have hE1 : Ext w w1 := q1.ext
  clear q1 hs
  go_wp2_with fail
  refine (asB hif (l03Node_c _ _ _ _ _ hxl)).mono ?_
  rintro e w2 ⟨rfl, rfl⟩
  go_wp2_with fail
  refine (asB hiu (l03Node_c _ _ _ _ _ hxl)).mono ?_
  rintro e w2 ⟨rfl, rfl⟩
  clear hif hiu
  go_wp2_with fail
  refine (HSt.out _ hE1).mono ?_
  rintro e w3 ⟨hE3, hg, -⟩
  obtain ⟨a3, c3, rfl, hO3⟩ := hg Hb.out
  clear hg
  have hm := hO3.mat
  obtain ⟨ps, os, rfl⟩ := hm.base (by rw [starM_len]; omega)
  obtain ⟨q, o2, cq, d1, dd, -⟩ := hm.hdr (starM_rect x x.length) hu (by omega)
  have d2 := dd f hf
  rw [Es.out] at d2
  have hE13 := hE1.trans hE3
  have hne' : (S == -1000000000000000) = false := by simpa using hne
  clear dd hm hO3 hE1 hE3
  go_wp2_with fail
  refine (l02Unit_c x.length _ (by omega)).mono ?_
  rintro e w4 ⟨a4, c4, rfl, hO4, hE4⟩
  rw [mkMat_len] at hO4 ⊢
  have hE14 := hE13.trans hE4
  replace d1 := hE4.cell d1
  replace d2 := hE4.cell d2
  have hO5 := (hO4.mono hE13.size).ext ((Ext.refl w4).alloc (.cells #[.slice a4 x.length c4] 24))
  have hX5 : OwnX (w4.alloc (.cells #[.slice a4 x.length c4] 24)) w4.heap.size (.slice (some ⟨w4.heap.size, 0, none⟩) 1 1) [.slice a4 x.length c4] := World.ownsRow_lit w4 #[.slice a4 x.length c4] 1 (Nat.le_refl _) (by decide) rfl
  have hP5 : PwAt x (w4.alloc (.cells #[.slice a4 x.length c4] 24)) w.heap.size [.slice a4 x.length c4] := fun j hj => by
    obtain rfl : j = 0 := by simpa using hj
    exact ⟨a4, c4, rfl, hO5⟩
  have hEd5 := (Ext.refl w4).alloc (.cells #[.slice a4 x.length c4] 24)
  have H5 := Lib.hid (And.intro hX5 (And.intro hP5 hEd5))
  have HD := Lib.hid (And.intro d1 (And.intro d2 hE14))
  clear hO4 hO5 hE13 hE4 hE14 hP5 hEd5 d1 d2 hX5
  go_wp2
  go_loopg [10] (K + 1) (fun gg s wr => ∃ (k c : Nat) (ad : Option Addr) (vals : List Value), s = .slice ad (k + 1) c ∧ k ≤ K ∧ k + gg = K + 1 ∧ vals.length = k + 1 ∧ Hid (OwnX wr w4.heap.size (.slice ad (k + 1) c) vals) ∧ Hid (PwAt x wr w.heap.size vals) ∧ Ext w4 wr)
  case atStart => exact ⟨0, 1, _, _, rfl, Nat.zero_le _, by omega, rfl, H5.out.1, H5.out.2.1, H5.out.2.2⟩
  case round =>
    obtain ⟨k, c, ad, vals, rfl, hkK, hgg, hvl, hX, hP, hE⟩ := hrel
    have HVl := Lib.hid hvl
    clear H5 hvl
    obtain ⟨g, rfl, hcell⟩ := hX.out.open (by rw [HVl.out]; omega)
    obtain ⟨ak, ck, hv, hOk⟩ := hP.out k (by rw [HVl.out]; omega)
    have c1 := hcell k _ hv
    have hmk := hOk.mat
    obtain ⟨p1, o1, rfl⟩ := hmk.base (by rw [(pw_rect x x.length k).1]; omega)
    obtain ⟨q1, o3, cq1, c2, cc, -⟩ := hmk.hdr (pw_rect x x.length k) hu (by omega)
    have c3' := cc f hf
    rw [pw_ent x hu k hf] at c3'
    have d1 := hE.cell HD.out.1
    have d2 := hE.cell HD.out.2.1
    have el : ((k + 1 : Nat) : Int) - 1 = (k : Int) := by omega
    have z1 : (0 : Int) ≤ (k : Int) := by omega
    have z2 : (k : Int) < (k : Int) + 1 := by omega
    have z4 : IntKind.i64.wrap (k : Int) = (k : Int) := IntWalk.i64_in _ (by omega)
    have Hmk := Lib.hid hmk
    clear hcell hv hOk hmk cc
    by_cases hk : lk (ent x) x.length u k f = S
    · have hkE : k = K := by
        rcases Nat.lt_or_ge k K with h | h
        · exact absurd hk (HK.out.2.2 k h)
        · omega
      have hne2 : (lk (ent x) x.length u k f != S) = false := by simpa using hk
      subst hkE
      generalize hz : lk (ent x) x.length u k f = z at *
      clear hk
      have hzS : z = S := HK.out.2.1
      have Hz := Lib.hid (And.intro hz hzS)
      clear hz hzS
      go_wp2_with fail
      go_big_quiet (fail)
      have hEq : Ext wr (wr.drewN nq) := Qt.ext ⟨nq, rfl⟩
      replace d1 := hEq.cell d1
      replace d2 := hEq.cell d2
      have hE6 := hE.trans hEq
      have hX6 := hX.out.ext hEq
      obtain ⟨g6, e6, hcell⟩ := hX6.open (by rw [HVl.out]; omega)
      have e6' : g = g6 := by simpa using e6
      subst e6'
      have hpw : ∀ j, j < k + 1 → ∃ pj oj cj, (wr.drewN nq).cell? ⟨g, j, none⟩ = some (.slice (some ⟨pj, oj, none⟩) x.length cj) ∧ ∃ qj rj dj, (wr.drewN nq).cell? ⟨pj, oj + u, none⟩ = some (.slice (some ⟨qj, rj, none⟩) x.length dj) ∧ ∀ v, v < x.length → (wr.drewN nq).cell? ⟨qj, rj + v, none⟩ = some (.int .i64 (lk (ent x) x.length u j v)) := fun j hj => by
        obtain ⟨aj, cj, hvj, hOj⟩ := hP.out j (by rw [HVl.out]; exact hj)
        have hmj := (hOj.ext hEq).mat
        obtain ⟨pj, oj, rfl⟩ := hmj.base (by rw [(pw_rect x x.length j).1]; omega)
        obtain ⟨qj, rj, dj, b1, b2, -⟩ := hmj.hdr (pw_rect x x.length j) hu (by omega)
        refine ⟨pj, oj, cj, hcell j _ hvj, qj, rj, dj, b1, fun v hv => ?_⟩
        have := b2 v hv
        rw [pw_ent x hu j hv] at this
        exact this
      have HPw := Lib.hid hpw
      have HE6 := Lib.hid (HD.out.2.2.trans hE6)
      obtain ⟨hx, rx, hA⟩ := HX.out
      replace hx := hx.mono HE6.out
      obtain ⟨pa, oa, hpa⟩ := hx.base (by omega)
      have hxc := fun z (hz : z < x.length) => (by rw [hpa] at hx; exact hx.hdr rx hz (by omega) : ∃ q o2 c, (wr.drewN nq).cell? ⟨pa, oa + z, none⟩ = some (.slice (some ⟨q, o2, none⟩) x.length c) ∧ (∀ j, j < x.length → (wr.drewN nq).cell? ⟨q, o2 + j, none⟩ = some (.int .i64 (ent x z j))) ∧ IntsAt (wr.drewN nq) (some ⟨q, o2, none⟩) (row x z))
      subst hpa
      have HXc := Lib.hid hxc
      have HA := Lib.hid hA
      clear hpw hcell hX6 hE6 hx rx hA hxc e6 c1 c2 c3' hX hP hE hEq HVl
      generalize wr.drewN nq = W6 at *
      go_upto_region 13 with fail
      go_cut [11, 12] from 82 to 93 (fun s n wx => s = .slice (some ⟨W6.heap.size, 0, none⟩) 1 1 ∧ n = .int .i64 S ∧ OwnI wx W6.heap.size (.slice (some ⟨W6.heap.size, 0, none⟩) 1 1) [(f : Int)] ∧ Ext W6 wx)
      case first =>
        have hO6 : OwnI (W6.drew.alloc (.cells #[.int .i64 (f : Int)] 2)) W6.heap.size (.slice (some ⟨W6.heap.size, 0, none⟩) 1 1) [(f : Int)] := World.ownsRow_lit W6.drew #[.int .i64 (f : Int)] 1 (Nat.le_refl _) (by decide) rfl
        have hE6 := ((Ext.refl W6).drew).alloc (.cells #[.int .i64 (f : Int)] 2)
        have HH := Lib.hid (And.intro hO6 hE6)
        have d1' := ((Ext.refl W6).alloc (.cells #[.int .i64 (f : Int)] 2)).cell d1
        have d2' := ((Ext.refl W6).alloc (.cells #[.int .i64 (f : Int)] 2)).cell d2
        clear hO6 hE6
        go_region
        all_goals
          go_wp2_with fail
          go_meet
          exact ⟨rfl, rfl, HH.out.1, HH.out.2⟩
      case rest =>
      obtain ⟨rfl, rfl, hO7, hE7⟩ := hcut
      have h0 : Hid (lk (ent x) x.length u k f ≠ -1000000000000000 ∧ [(f : Int)] ++ tailL (ent x) x.length u k f = (f : Int) :: tailL (ent x) x.length u k f) := ⟨by rw [Hz.out.1, Hz.out.2]; exact hne, rfl⟩
      have hkS : S = lk (ent x) x.length u k f := by rw [Hz.out.1, Hz.out.2]
      have w1' : IntKind.i64.wrap ((k : Int) + 1 - 2) = (k : Int) - 1 := by rw [show (k : Int) + 1 - 2 = (k : Int) - 1 by omega]; exact IntWalk.i64_in _ (by omega)
      have w2' : (k : Int) + 1 - 2 = (k : Int) - 1 := by omega
      clear d1 d2 HSt Hb Es
      go_wp2
      go_loopw [11, 12, 13] (fun s nn i wr => ∃ (j v c : Nat) (ad : Option Addr) (xs : List Int), i = .int .i64 ((j : Int) - 1) ∧ s = .slice ad xs.length c ∧ nn = .int .i64 (lk (ent x) x.length u j v) ∧ j ≤ k ∧ v < x.length ∧ xs.length + j = k + 1 ∧ nth xs (xs.length - 1) = (v : Int) ∧ Hid (lk (ent x) x.length u j v ≠ -1000000000000000 ∧ xs ++ tailL (ent x) x.length u j v = (f : Int) :: tailL (ent x) x.length u k f) ∧ OwnI wr W6.heap.size (.slice ad xs.length c) xs ∧ Ext W6 wr) (fun _ _ i _ => (intOf i + 1).toNat)
      case atStart => exact ⟨k, f, 1, _, [(f : Int)], by go_num, rfl, by rw [hkS], Nat.le_refl _, hf, by simp; omega, rfl, h0, hO7, hE7⟩
      case round =>
        obtain ⟨j, v, c9, ad, xs, rfl, rfl, rfl, hjk, hv, hxj, hlast, hI, hO, hE⟩ := hrel
        clear hO7 hE7 h0 w1' w2' hkS
        by_cases hj : 0 < j
        · obtain ⟨j, rfl⟩ : ∃ j', j = j' + 1 := ⟨j - 1, by omega⟩
          have ej : ((j + 1 : Nat) : Int) - 1 = (j : Int) := by omega
          rw [ej]
          obtain ⟨g9, rfl, hB9, hs9, hc9, -⟩ := hO.open (by omega)
          have cl := hc9 (xs.length - 1) (by omega)
          rw [hlast] at cl
          have el2 : ((xs.length : Nat) : Int) - 1 = ((xs.length - 1 : Nat) : Int) := by omega
          have hxl2 : xs.length - 1 < xs.length := by omega
          obtain ⟨n1, n2, n3⟩ := next_ex hI.out.1
          have HN := Lib.hid (And.intro n2 n3)
          have hI2 : xs ++ [(nextN (ent x) x.length u j v : Int)] ++ tailL (ent x) x.length u j (nextN (ent x) x.length u j v) = (f : Int) :: tailL (ent x) x.length u k f := by
            rw [← hI.out.2, List.append_assoc]; rfl
          have HI2 := Lib.hid hI2
          have HO := Lib.hid hO
          have Hlv := Lib.hid hI.out.1
          generalize nextN (ent x) x.length u j v = nx at *
          clear n2 n3 hI2 hc9 hlast hO hI ej
          have hjn : (j : Int) ≤ 10 := by have := HK.out.1; omega
          have z1 : (0 : Int) ≤ (j : Int) := by omega
          have z2 : (j : Int) < (k : Int) + 1 := by omega
          have z4 : IntKind.i64.wrap (j : Int) = (j : Int) := IntWalk.i64_in _ (by omega)
          have wl : IntKind.i64.wrap ((x.length : Int) - 1) = (x.length : Int) - 1 := IntWalk.i64_in _ (by omega)
          generalize wr = wo at *
          go_wp2
          clear cl el2
          go_loopw [15, 16] (fun nxt i w2 => ∃ (z : Nat) (nz : Int), nxt = .int .i64 nz ∧ i = .int .i64 ((z : Int) - 1) ∧ z ≤ x.length ∧ Hid (LastP (nextB (ent x) x.length u j v) x.length z nz) ∧ Qt wo w2) (fun _ i _ => (intOf i + 1).toNat)
          case atStart => exact ⟨x.length, -1, rfl, rfl, Nat.le_refl _, LastP.start _ _, Qt.refl _⟩
          case round =>
            obtain ⟨z, nz, rfl, rfl, hzl, hL, hq⟩ := hrel
            have hEr := hE.trans hq.ext
            by_cases hz : 0 < z
            · obtain ⟨z, rfl⟩ : ∃ z', z = z' + 1 := ⟨z - 1, by omega⟩
              have ez : ((z + 1 : Nat) : Int) - 1 = (z : Int) := by omega
              rw [ez]
              have hz2 : z < x.length := by omega
              obtain ⟨qx, ox, cx, d1, dd, -⟩ := HXc.out z hz2
              have d2 := hEr.cell (dd v hv)
              replace d1 := hEr.cell d1
              obtain ⟨pj, oj, cj, d3, qj, rj, dj, d4, dp⟩ := HPw.out j (by omega)
              have d5 := hEr.cell (dp z hz2)
              replace d3 := hEr.cell d3
              replace d4 := hEr.cell d4
              have y1 : (0 : Int) ≤ (z : Int) := by omega
              have y2 : (z : Int) < (x.length : Int) := by omega
              have y3 : IntKind.i64.wrap (z : Int) = (z : Int) := IntWalk.i64_in _ (by omega)
              have y4 : IntKind.i64.wrap ((z : Int) - 1) = (z : Int) - 1 := IntWalk.i64_in _ (by omega)
              have hb1 := HA.out.bd z v
              have hb2 := lk_bd HA.out (u := u) j z
              by_cases b1 : ent x z v = -1000000000000000
              · have b1' : (ent x z v != -1000000000000000) = false := by simpa using b1
                have hL2 : Hid (LastP (nextB (ent x) x.length u j v) x.length z nz) := hL.out.no (by
                  cases e : nextB (ent x) x.length u j v z
                  · rfl
                  · exact absurd b1 (nextB_iff.1 e).1)
                clear dd dp hb1 hb2 b1 ez hL
                generalize ent x z v = ax at *
                go_wp2_with fail
                go_big_quiet (fail)
                go_wp2
                go_roundw
                case rel => exact ⟨z, nz, rfl, by go_num, by omega, hL2, hq.drewN nq⟩
                case measure => simp [intOf]
              · have b1' : (ent x z v != -1000000000000000) = true := by simpa using b1
                have hT := fun w' => l01Times_c (ent x z v) (lk (ent x) x.length u j z) w' (by have := hb1 b1; omega) (by omega)
                have hTn := times_next (A := ent x) (n := x.length) (u := u) (j := j) (v := v) (z := z) b1 Hlv.out
                cases hg : nextB (ent x) x.length u j v z
                · rw [hg] at hTn
                  have hL2 : Hid (LastP (nextB (ent x) x.length u j v) x.length z nz) := hL.out.no hg
                  have HT := Lib.hid hT
                  clear dd dp hb1 hb2 b1 ez hL hg hT
                  generalize times (ent x z v) (lk (ent x) x.length u j z) = tv at *
                  generalize ent x z v = ax at *
                  generalize lk (ent x) x.length u j z = lz at *
                  generalize hlv : lk (ent x) x.length u (j + 1) v = lv at *
                  have Hlv2 := Lib.hid hlv
                  clear hlv
                  go_wp2_with fail
                  go_big_quiet ((go_at_call 97; exact quiet_pure (HT.out _)))
                  go_wp2
                  go_roundw
                  case rel => exact ⟨z, nz, rfl, by go_num, by omega, hL2, hq.drewN nq⟩
                  case measure => simp [intOf]
                · rw [hg] at hTn
                  have hL2 : Hid (LastP (nextB (ent x) x.length u j v) x.length z (z : Int)) := LastP.yes hz2 hg
                  have HT := Lib.hid hT
                  clear dd dp hb1 hb2 b1 ez hL hg hT
                  generalize times (ent x z v) (lk (ent x) x.length u j z) = tv at *
                  generalize ent x z v = ax at *
                  generalize lk (ent x) x.length u j z = lz at *
                  generalize hlv : lk (ent x) x.length u (j + 1) v = lv at *
                  have Hlv2 := Lib.hid hlv
                  clear hlv
                  go_wp2_with fail
                  go_big_quiet ((go_at_call 97; exact quiet_pure (HT.out _)))
                  go_wp2
                  go_roundw
                  case rel => exact ⟨z, (z : Int), rfl, by go_num, by omega, hL2, hq.drewN nq⟩
                  case measure => simp [intOf]
            · obtain rfl : z = 0 := by omega
              have hnz := hL.out.done n1 HN.out.1 HN.out.2
              subst hnz
              obtain ⟨qx, ox, cx, d1, dd, -⟩ := HXc.out nx n1
              have d2 := hEr.cell (dd v hv)
              replace d1 := hEr.cell d1
              obtain ⟨b1, b2, b3⟩ := nextB_iff.1 HN.out.1
              have hb1 := HA.out.bd nx v b1
              have hb2 := lk_bd HA.out (u := u) j nx
              have hw : IntKind.i64.wrap (lk (ent x) x.length u (j + 1) v - ent x nx v) = lk (ent x) x.length u j nx := by
                rw [show lk (ent x) x.length u (j + 1) v - ent x nx v = lk (ent x) x.length u j nx by omega]; exact IntWalk.i64_in _ (by omega)
              have hn2 : Hid (lk (ent x) x.length u j nx ≠ -1000000000000000) := b2
              have y1 : (0 : Int) ≤ (nx : Int) := by omega
              have y2 : (nx : Int) < (x.length : Int) := by omega
              have y5 : IntKind.i64.wrap ((j : Int) - 1) = (j : Int) - 1 := IntWalk.i64_in _ (by omega)
              have hO3 := HO.out.ext hq.ext
              have hll : xs.length ≤ 1000000000 := by have := HK.out.1; omega
              have hsz : W6.heap.size ≤ (wr.alloc (.cells #[.int .i64 (nx : Int)] 2)).heap.size := by have := hEr.size; simp; omega
              clear dd b1 b2 b3 hb1 hb2 hL
              generalize ent x nx v = ax at *
              generalize hln : lk (ent x) x.length u j nx = ln at hw
              have Hln := Lib.hid hln
              generalize hlv : lk (ent x) x.length u (j + 1) v = lv at *
              have Hlv2 := Lib.hid hlv
              clear hlv hln
              go_wp2_with (at_builtin; refine app_i rfl _ _ rfl W6.heap.size _ _ rfl (hO3.ext ((Ext.refl wr).alloc _)) ⟨wr.heap.size, 0, none⟩ 1 (nx : Int) rfl (cell_one _ _ _) hll hsz ?_)
              intro v' w4' hO4 hg4
              have hE4 := (hEr.alloc (.cells #[.int .i64 (nx : Int)] 2)).grown hg4 (fun k hk => hO3.base k hk)
              obtain ⟨a4', c4', rfl, -⟩ := hO4.at
              have hl4 : (xs ++ [(nx : Int)]).length = xs.length + 1 := by simp
              have hnl : nth (xs ++ [(nx : Int)]) (xs.length + 1 - 1) = (nx : Int) := by rw [Nat.add_sub_cancel, nth_app2]
              have HO4 := Lib.hid hO4
              have HE4 := Lib.hid (And.intro hE4 hnl)
              rw [hl4]
              clear hO3 hO4 hg4 hE4 hnl
              go_wp2
              go_roundw
              case rel => exact ⟨j, nx, c4', a4', xs ++ [(nx : Int)], by go_num, by rw [hl4], by rw [Hln.out], by omega, n1, by rw [hl4]; omega, by rw [hl4]; exact HE4.out.2, ⟨hn2.out, HI2.out⟩, HO4.out, HE4.out.1⟩
              case measure => simp [intOf]
        · obtain rfl : j = 0 := by omega
          have hfin : xs = (f : Int) :: tailL (ent x) x.length u k f := by rw [← hI.out.2]; simp [tailL]
          have hEw := HE6.out.trans hE
          have hOw := hO.mono HE6.out.size
          clear hI hO
          subst hfin
          go_wp2
          go_ret2
          exact ⟨ad, c9, rfl, hOw, hEw⟩
    · have hkE : k < K := by
        rcases Nat.lt_or_ge k K with h | h
        · exact h
        · have : k = K := by omega
          subst this; exact absurd HK.out.2.1 hk
      have hne2 : (lk (ent x) x.length u k f != S) = true := by simpa using hk
      generalize lk (ent x) x.length u k f = z at *
      clear hk
      go_wp2_with fail
      go_big_quiet (fail)
      have hEq : Ext wr (wr.drewN nq) := Qt.ext ⟨nq, rfl⟩
      replace c1 := hEq.cell c1
      have hE6 := hE.trans hEq
      have hX6 := hX.out.ext hEq
      have hP6 : PwAt x (wr.drewN nq) w.heap.size vals := fun j hj => by
        obtain ⟨aj, cj, h1, h2⟩ := hP.out j hj
        exact ⟨aj, cj, h1, h2.ext hEq⟩
      have hmul := l02Multiply_c (some ⟨p1, o1, none⟩) a ck ca x.length x.length x.length (pw x x.length k) x (wr.drewN nq) (Hmk.out.mono hEq) (HX.out.1.mono (HD.out.2.2.trans hE6)) (pw_rect x x.length k) HX.out.2.1 (by omega) (by omega) (by omega) (by omega) (by omega)
        (pw_ebd HX.out.2.2 (by omega)) (fun i j => by
          by_cases e : ent x i j = -1000000000000000
          · rw [e]; omega
          · have := HX.out.2.2.bd i j e; omega)
      rw [(pw_rect x x.length k).1] at hmul
      have HMul := Lib.hid hmul
      have H6 := Lib.hid (And.intro hX6 (And.intro hP6 hE6))
      clear c2 c3' d1 d2 hmul hE6 hX6 hP6 hX hP hE hEq
      generalize wr.drewN nq = W6 at *
      go_wp2_with fail
      refine HMul.out.mono ?_
      rintro e w7 ⟨a7, c7, rfl, hO7, hE7⟩
      rw [mkMat_len] at hO7 ⊢
      have hEa := (Ext.refl w7).alloc (.cells #[.slice a7 x.length c7] 24)
      have hX7 := (H6.out.1.ext hE7).ext hEa
      have hE7a := (H6.out.2.2.trans hE7).trans hEa
      have hll : vals.length ≤ 1000000000 := by rw [HVl.out]; omega
      have H7 := Lib.hid (And.intro hO7 (And.intro hE7 hEa))
      have hsz := hE7a.size
      clear hO7 hE7 hEa c1
      go_wp2_with (at_builtin; refine app_x rfl _ _ rfl w4.heap.size _ vals rfl hX7 ⟨w7.heap.size, 0, none⟩ 1 a7 x.length c7 rfl (cell_one _ _ _) hll hsz ?_)
      intro v' w8 hX8 hg8 a8 c8 hv9
      rw [HVl.out] at hv9
      subst hv9
      have hE8 := hE7a.grown hg8 (fun b hb => hX7.base b hb)
      have hP8 : PwAt x w8 w.heap.size (vals ++ [.slice a7 x.length c7]) := fun j hj => by
        by_cases e : j < vals.length
        · obtain ⟨aj, cj, h1, h2⟩ := H6.out.2.1 j e
          exact ⟨aj, cj, by rw [List.getElem?_append_left e]; exact h1, ((h2.ext H7.out.2.1).ext H7.out.2.2).keepX hX7 hg8⟩
        · have e2 : j = vals.length := by simp at hj; omega
          subst e2
          refine ⟨a7, c7, by simp, ?_⟩
          have h1 := ((H7.out.1.mono (Nat.le_trans HD.out.2.2.size H6.out.2.2.size)).ext H7.out.2.2).keepX hX7 hg8
          rw [HVl.out]; exact h1
      have hl8 : (vals ++ [Value.slice a7 x.length c7]).length = k + 1 + 1 := by simp [HVl.out]
      have H8 := Lib.hid (And.intro hX8 (And.intro hP8 hl8))
      clear hX7 hX8 hg8 hP8 hE7a hl8
      go_wp2
      go_roundg (gk - 1)
      case measure => omega
      case rel => exact ⟨k + 1, c8, a8, _, rfl, hkE, by omega, H8.out.2.2, H8.out.1, H8.out.2.1, hE8⟩
set_option maxHeartbeats 1000000 in
theorem specHp_c (a : Option Addr) (ca : Nat) (x : List (List Int)) (f t : Int) (w : World) (hx : MatAt w a x) :
    Calls Try.prog 37 #[.slice a x.length ca, .int .i64 f, .int .i64 t] w (GivesI2 w (hpV x f t).1 (hpV x f t).2) := by
  have hxl := hx.len
  rw [show (GivesI2 w (hpV x f t).1 (hpV x f t).2) = fun e w' => ∃ a cap, e = .returned (.tuple #[.slice a (hpV x f t).1.length cap, .int .i64 (hpV x f t).2]) ∧ OwnI w' w.heap.size (.slice a (hpV x f t).1.length cap) (hpV x f t).1 ∧ Ext w w' from rfl]
  cases hs : isSq x
  · have e : hpV x f t = ([], 1) := by unfold hpV; rw [hs]; rfl
    rw [e]; clear e
    go_enter Try.func37, Try.ntmps37
    go_wp2_with fail
    refine (asB hs (l02Square_c _ _ _ _ hx)).mono ?_
    rintro e w1 ⟨rfl, q1⟩
    have hE1 := q1.ext
    go_wp2
    go_ret2
    exact ⟨none, 0, rfl, OwnI.nil _ _, hE1⟩
  cases hf : inR f 0 ((x.length : Int) - 1)
  · have e : hpV x f t = ([], 2) := by unfold hpV; rw [hs, hf]; rfl
    rw [e]; clear e
    go_enter Try.func37, Try.ntmps37
    go_wp2_with fail
    refine (asB hs (l02Square_c _ _ _ _ hx)).mono ?_
    rintro e w1 ⟨rfl, q1⟩
    have hE1 := q1.ext
    go_wp2_with fail
    refine (asB hf (l03Node_c _ _ _ _ _ hxl)).mono ?_
    rintro e w2 ⟨rfl, rfl⟩
    go_wp2
    go_ret2
    exact ⟨none, 0, rfl, OwnI.nil _ _, hE1⟩
  cases ht : inR t 0 ((x.length : Int) - 1)
  · have e : hpV x f t = ([], 2) := by unfold hpV; rw [hs, hf, ht]; rfl
    rw [e]; clear e
    go_enter Try.func37, Try.ntmps37
    go_wp2_with fail
    refine (asB hs (l02Square_c _ _ _ _ hx)).mono ?_
    rintro e w1 ⟨rfl, q1⟩
    have hE1 := q1.ext
    go_wp2_with fail
    refine (asB hf (l03Node_c _ _ _ _ _ hxl)).mono ?_
    rintro e w2 ⟨rfl, rfl⟩
    go_wp2_with fail
    refine (asB ht (l03Node_c _ _ _ _ _ hxl)).mono ?_
    rintro e w2 ⟨rfl, rfl⟩
    go_wp2
    go_ret2
    exact ⟨none, 0, rfl, OwnI.nil _ _, hE1⟩
  obtain ⟨rx, hl1, hl2⟩ := isSq_rect hs
  have hA := isSq_abd hs
  obtain ⟨f1, f2⟩ := inR_iff.1 hf
  obtain ⟨t1, t2⟩ := inR_iff.1 ht
  obtain ⟨fn, rfl⟩ := Int.eq_ofNat_of_zero_le f1
  obtain ⟨u, rfl⟩ := Int.eq_ofNat_of_zero_le t1
  have hfn : fn < x.length := by omega
  have hun : u < x.length := by omega
  have hst := fun w' (h : Ext w w') => l03Star_c a ca x x.length _ w' (hx.mono h) rx hl1 hl2 hA
  have HSt := Lib.hid hst
  clear hst
  cases hb : starB (ent x) x.length
  · have e : hpV x (fn : Int) (u : Int) = ([], 5) := by unfold hpV; rw [hs, hf, ht, hb]; rfl
    rw [e]; clear e
    have Hb := Lib.hid hb
    clear hb hA rx f1 f2 t1 t2
    go_enter Try.func37, Try.ntmps37
    go_wp2_with fail
    refine (asB hs (l02Square_c _ _ _ _ hx)).mono ?_
    rintro e w1 ⟨rfl, q1⟩
    have hE1 := q1.ext
    go_wp2_with fail
    refine (asB hf (l03Node_c _ _ _ _ _ hxl)).mono ?_
    rintro e w2 ⟨rfl, rfl⟩
    go_wp2_with fail
    refine (asB ht (l03Node_c _ _ _ _ _ hxl)).mono ?_
    rintro e w2 ⟨rfl, rfl⟩
    go_wp2_with fail
    refine (HSt.out _ hE1).mono ?_
    rintro e w3 ⟨hE3, -, hg⟩
    obtain ⟨a3, k3, c3, rfl⟩ := hg Hb.out
    clear hg
    go_wp2
    go_ret2
    exact ⟨none, 0, rfl, OwnI.nil _ _, hE1.trans hE3⟩
  have Hb := Lib.hid hb
  have es : ent (starM x x.length) u fn = fwS (ent x) x.length u fn := mkMat_ent hun hfn
  by_cases hne : fwS (ent x) x.length u fn = -1000000000000000
  · have e : hpV x (fn : Int) (u : Int) = ([], 4) := by unfold hpV; rw [hs, hf, ht, hb]; simp [hne]
    rw [e]; clear e
    rw [hne] at es
    have Es := Lib.hid es
    clear hb hA rx f1 f2 t1 t2 hne es
    go_enter Try.func37, Try.ntmps37
    go_wp2_with fail
    refine (asB hs (l02Square_c _ _ _ _ hx)).mono ?_
    rintro e w1 ⟨rfl, q1⟩
    have hE1 := q1.ext
    go_wp2_with fail
    refine (asB hf (l03Node_c _ _ _ _ _ hxl)).mono ?_
    rintro e w2 ⟨rfl, rfl⟩
    go_wp2_with fail
    refine (asB ht (l03Node_c _ _ _ _ _ hxl)).mono ?_
    rintro e w2 ⟨rfl, rfl⟩
    go_wp2_with fail
    refine (HSt.out _ hE1).mono ?_
    rintro e w3 ⟨hE3, hg, -⟩
    obtain ⟨a3, c3, rfl, hO3⟩ := hg Hb.out
    clear hg
    have hm := hO3.mat
    obtain ⟨ps, os, rfl⟩ := hm.base (by rw [starM_len]; omega)
    obtain ⟨q, o2, cq, d1, dd, -⟩ := hm.hdr (starM_rect x x.length) hun (by omega)
    have d2 := dd fn hfn
    rw [Es.out] at d2
    clear dd hm hO3
    go_wp2
    go_ret2
    exact ⟨none, 0, rfl, OwnI.nil _ _, hE1.trans hE3⟩
  · have e : hpV x (fn : Int) (u : Int) = ((fn : Int) :: tailL (ent x) x.length u (hpK (ent x) x.length u fn) fn, 0) := by unfold hpV; rw [hs, hf, ht, hb]; simp [hne]
    rw [e]
    exact specHp_go a ca x fn u w hx hs hb hfn hun hne
theorem firstK_le (g : Nat → Bool) (m : Nat) : firstK g m ≤ m := by
  induction m generalizing g with
  | zero => exact Nat.le_refl _
  | succ m ih =>
    unfold firstK
    split
    · omega
    · have := ih fun i => g (i + 1)
      omega
theorem hpV_len (x : List (List Int)) (f t : Int) : (hpV x f t).1.length ≤ 1000000 := by
  unfold hpV
  split
  · rename_i hs
    have hl := (isSq_rect hs).2.2
    split
    · split
      · split
        · simp
        · have := firstK_le (fun k => lk (ent x) x.length t.toNat k f.toNat == fwS (ent x) x.length t.toNat f.toNat) (x.length + 1)
          simp only [List.length_cons, tailL_len]
          unfold hpK
          omega
      · simp
    · simp
  · simp
end Go.Proofs.Ytokhkpbebimohaa
