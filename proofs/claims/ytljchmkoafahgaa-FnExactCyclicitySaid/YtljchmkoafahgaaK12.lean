/- Plain law: the period of a component: the greatest common divisor of the lengths of its cycles is that of the differences of levels. No program is entered. -/
import Derived.Test.YtljchmkoafahgaaGG
namespace Go.Proofs.Ytljchmkoafahgaa
set_option linter.unusedVariables false

/-- p is the greatest common divisor of the lengths of the cycles whose least node lies in c -/
def IsPer (A : Nat → Nat → Int) (n : Nat) (c : List Int) (p : Int) : Prop := 0 ≤ p ∧ ∀ d : Int, d ∣ p ↔ ∀ f m, Cy A n f m → (f : Int) ∈ c → d ∣ (m.length : Int) + 1
theorem IsPer.eq {A : Nat → Nat → Int} {n : Nat} {c : List Int} {p q : Int} (h : IsPer A n c p) (k : IsPer A n c q) : p = q := by
  have h1 : p ∣ q := (k.2 p).2 ((h.2 p).1 (Int.dvd_refl p))
  have h2 : q ∣ p := (h.2 q).2 ((k.2 q).1 (Int.dvd_refl q))
  exact Int.dvd_antisymm h.1 k.1 h1 h2
noncomputable def perV (A : Nat → Nat → Int) (n : Nat) (c : List Int) : Int := open Classical in if h : ∃ p, IsPer A n c p then Classical.choose h else 0
theorem IsPer.val {A : Nat → Nat → Int} {n : Nat} {c : List Int} {p : Int} (h : IsPer A n c p) : perV A n c = p := by
  unfold perV
  have hex : ∃ p, IsPer A n c p := ⟨p, h⟩
  rw [dif_pos hex]
  exact (Classical.choose_spec hex).eq h
/-- such a number is small -/
theorem IsPer.small {A : Nat → Nat → Int} {n : Nat} {c : List Int} {p : Int} (h : IsPer A n c p) (hn : n ≤ 10) : p ≤ 10 := by
  by_cases hex : ∃ f m, Cy A n f m ∧ (f : Int) ∈ c
  · obtain ⟨f, m, hc, hm⟩ := hex
    have hd := (h.2 p).1 (Int.dvd_refl p) f m hc hm
    have hl := hc.len
    have := Int.le_of_dvd (by omega) hd
    omega
  · have : (0 : Int) ∣ p := (h.2 0).2 fun f m hc hm => absurd ⟨f, m, hc, hm⟩ hex
    have := Int.zero_dvd.1 this
    omega
/-- cycles made out of a path that is left to be grown -/
def LenPost (A : Nat → Nat → Int) (n f : Nat) (m : List Nat) (g g' : Int) : Prop := (0 ≤ g' ∧ g' ≤ 10) ∧ ∀ d : Int, d ∣ g' ↔ (d ∣ g ∧ ∀ s, Cy A n f (s ++ m) → d ∣ ((s ++ m).length : Int) + 1)
theorem gcdI_dvd {a b d : Int} : d ∣ gcdI a b ↔ d ∣ a ∧ d ∣ b := by
  unfold gcdI
  constructor
  · intro h; exact ⟨Int.dvd_trans h (Int.gcd_dvd_left ..), Int.dvd_trans h (Int.gcd_dvd_right ..)⟩
  · rintro ⟨h1, h2⟩; exact Int.dvd_coe_gcd h1 h2
theorem gcdI_ten {a b : Int} (ha : 0 ≤ a ∧ a ≤ 11) (hb : 0 ≤ b ∧ b ≤ 11) : 0 ≤ gcdI a b ∧ gcdI a b ≤ 11 := by
  refine ⟨gcdI_nonneg _ _, ?_⟩
  by_cases h : b = 0
  · subst h
    have : gcdI a 0 = a := gcdI_zero ha.1 (by omega) (by omega)
    omega
  · have := gcdI_le (a := a) (b := b) (by omega)
    omega
theorem gcdI_len {a b : Int} (ha : 0 ≤ a ∧ a ≤ 10) (hb : 1 ≤ b ∧ b ≤ 10) : 0 ≤ gcdI a b ∧ gcdI a b ≤ 10 := by
  refine ⟨gcdI_nonneg _ _, ?_⟩
  have := gcdI_le (a := a) (b := b) (by omega)
  omega

/-- a walk of k arcs from y to x -/
def Wlk (A : Nat → Nat → Int) (n x y : Nat) (k : Int) : Prop := (x = y ∧ k = 0) ∨ ∃ m, lo n m ∧ wk A x m y ∧ k = (m.length : Int) + 1
theorem Wlk.trans {A : Nat → Nat → Int} {n x y z : Nat} {k l : Int} (h : Wlk A n x y k) (hy : y < n) (g : Wlk A n y z l) : Wlk A n x z (k + l) := by
  rcases h with ⟨rfl, rfl⟩ | ⟨m, h1, h2, rfl⟩
  · rw [Int.zero_add]; exact g
  · rcases g with ⟨rfl, rfl⟩ | ⟨m', g1, g2, rfl⟩
    · exact .inr ⟨m, h1, h2, by omega⟩
    · refine .inr ⟨m ++ y :: m', lo_app.2 ⟨h1, lo_cons.2 ⟨hy, g1⟩⟩, (wk_app _ _ _ _ _).2 ⟨h2, g2⟩, ?_⟩
      rw [List.length_append, List.length_cons]; omega
theorem Wlk.arc {A : Nat → Nat → Int} {n x y : Nat} (h : A x y ≠ -1000000000000000) : Wlk A n x y 1 := .inr ⟨[], lo_nil _, h, rfl⟩
theorem wk_zA {a : List (List Int)} : ∀ (m : List Nat) (i j : Nat), wk (zA a) i m j ↔ wk (ent a) i m j
  | [], i, j => zA_ne
  | k :: m, i, j => by
    have ih := wk_zA (a := a) m k j
    simp only [wk, zA_ne, ih]
theorem Wlk.of_rp {a : List (List Int)} {n f t : Nat} (h : RP a n f t) : ∃ k, Wlk (ent a) n t f k := by
  rcases h with rfl | ⟨m, h1, h2⟩
  · exact ⟨0, .inl ⟨rfl, rfl⟩⟩
  · exact ⟨_, .inr ⟨m, h1, (wk_zA _ _ _).1 h2, rfl⟩⟩
theorem fk_sub {A A' : Nat → Nat → Int} : ∀ (l : List Nat) (v : Nat), (∀ x y, x ∈ v :: l.dropLast → A x y ≠ -1000000000000000 → A' x y ≠ -1000000000000000) → fk A (v :: l) → fk A' (v :: l)
  | [], v, _, _ => trivial
  | [y], v, h, g => ⟨h v y (by simp) g.1, trivial⟩
  | y :: z :: l, v, h, g => ⟨h v y (by simp) g.1, fk_sub (z :: l) y (fun a b ha => h a b (by
      rw [List.dropLast_cons_of_ne_nil (by simp)]; exact List.mem_cons_of_mem _ ha)) g.2⟩
/-- a closed simple walk, told from its least node -/
theorem rotP {A : Nat → Nat → Int} {n c : Nat} {t : List Nat} (hd : (c :: t).Nodup) (h1 : lo n (c :: t)) (h2 : fk A (c :: (t ++ [c]))) : ∃ z m, Cy A n z m ∧ z ∈ c :: t ∧ m.length = t.length := by
  have h3 : fk (fun x y => if x ∈ c :: t then A x y else -1000000000000000) (c :: (t ++ [c])) := fk_sub _ _ (fun x y hx h => by
    have : x ∈ c :: t := by simpa using hx
    simp only [if_pos this]; exact h) h2
  obtain ⟨z, m, g1, g2, g3, g4, -, g6⟩ := rotate hd h1 h3
  refine ⟨z, m, ⟨g1, g2, g3, ?_⟩, ?_, g6⟩
  · refine fk_sub (A := fun x y => if x ∈ c :: t then A x y else -1000000000000000) _ _ (fun x y hx h => ?_) g4
    intro e
    apply h
    show (if x ∈ c :: t then A x y else -1000000000000000) = _
    split
    · exact e
    · rfl
  · refine Classical.byContradiction fun hz => ?_
    cases m with
    | nil => exact g4.1 (if_neg hz)
    | cons y m => exact g4.1 (if_neg hz)
section
variable {A : Nat → Nat → Int} {n : Nat} {P : Nat → Prop} {d : Int}
/-- the length of a closed walk is a multiple of d if those of the simple cycles are -/
theorem closed_dvd (hP : ∀ v, P v → v < n) (hmem : ∀ v t, P v → lo n t → wk A v t v → ∀ x ∈ t, P x) (H : ∀ f m, Cy A n f m → P f → d ∣ (m.length : Int) + 1) :
    ∀ (L : Nat) (v : Nat) (t : List Nat), t.length ≤ L → P v → lo n t → wk A v t v → d ∣ (t.length : Int) + 1 := by
  intro L
  induction L with
  | zero =>
    intro v t hl hv ht hw
    have : t = [] := List.eq_nil_of_length_eq_zero (by omega)
    subst this
    exact H v [] ⟨by simp, lo_cons.2 ⟨hP v hv, lo_nil _⟩, fun u h => by simp at h, (wk_fk _ _ _ _).1 hw⟩ hv
  | succ L ih =>
    intro v t hl hv ht hw
    by_cases hd : (v :: t).Nodup
    · obtain ⟨z, m, g1, g2, g6⟩ := rotP hd (lo_cons.2 ⟨hP v hv, ht⟩) ((wk_fk _ _ _ _).1 hw)
      have hz : P z := by
        rcases List.mem_cons.1 g2 with h | h
        · rw [h]; exact hv
        · exact hmem v t hv ht hw z h
      rw [← g6]
      exact H z m g1 hz
    · obtain ⟨s1, x, t1, r, e⟩ := dup_split _ hd
      have hx : P x := by
        have hm : x ∈ v :: t := by rw [e]; simp
        rcases List.mem_cons.1 hm with h | h
        · rw [h]; exact hv
        · exact hmem v t hv ht hw x h
      have hmemn : ∀ y, y ∈ s1 ∨ y = x ∨ y ∈ t1 ∨ y ∈ r → y < n := fun y hy => by
        have hm : y ∈ v :: t := by
          rw [e]
          simp only [List.mem_append, List.mem_cons]
          rcases hy with h | h | h | h
          · exact .inl h
          · exact .inr (.inl h)
          · exact .inr (.inr (.inl h))
          · exact .inr (.inr (.inr (.inr h)))
        rcases List.mem_cons.1 hm with h | h
        · rw [h]; exact hP v hv
        · exact ht y h
      have hf := (wk_fk _ _ _ _).1 hw
      have e0 : v :: (t ++ [v]) = s1 ++ x :: (t1 ++ x :: (r ++ [v])) := by
        have := congrArg (· ++ [v]) e
        simpa using this
      rw [e0] at hf
      have k1 := (fk_app A s1 x (t1 ++ x :: (r ++ [v]))).1 hf
      have k2 : fk A (x :: (t1 ++ [x])) ∧ fk A (x :: (r ++ [v])) := (fk_app A (x :: t1) x (r ++ [v])).1 k1.2
      have k3 := (fk_app A s1 x (r ++ [v])).2 ⟨k1.1, k2.2⟩
      have hlen1 : t.length + 1 = s1.length + (t1.length + (r.length + 1) + 1) := by
        have := congrArg List.length e
        simpa using this
      have a1 := ih x t1 (by omega) hx (fun y hy => hmemn y (.inr (.inr (.inl hy)))) ((wk_fk _ _ _ _).2 k2.1)
      obtain ⟨t2, ht2, hlt2⟩ : ∃ t2, s1 ++ x :: r = v :: t2 ∧ s1 ++ x :: (r ++ [v]) = v :: (t2 ++ [v]) := by
        cases s1 with
        | nil =>
          simp only [List.nil_append, List.cons.injEq] at e
          exact ⟨r, by rw [e.1]; rfl, by rw [e.1]; rfl⟩
        | cons y s1 =>
          simp only [List.cons_append, List.cons.injEq] at e
          exact ⟨s1 ++ x :: r, by rw [e.1]; rfl, by rw [e.1]; simp⟩
      have hlen2 : s1.length + (r.length + 1) = t2.length + 1 := by
        have := congrArg List.length ht2
        simpa using this
      rw [hlt2] at k3
      have a2 := ih v t2 (by omega) hv (fun y hy => by
        have hm : y ∈ s1 ++ x :: r := by rw [ht2]; exact List.mem_cons_of_mem _ hy
        simp only [List.mem_append, List.mem_cons] at hm
        rcases hm with h | h | h
        · exact hmemn y (.inl h)
        · exact hmemn y (.inr (.inl h))
        · exact hmemn y (.inr (.inr (.inr h)))) ((wk_fk _ _ _ _).2 k3)
      have e1 : (t.length : Int) + 1 = ((t1.length : Int) + 1) + ((t2.length : Int) + 1) := by omega
      rw [e1]; exact Int.dvd_add a1 a2
end
/-- nodes that reach one another, and no walk among them leaves them -/
structure Strong (A : Nat → Nat → Int) (n : Nat) (c : List Int) : Prop where
  nat : ∀ v, v ∈ c → ∃ u : Nat, v = (u : Int) ∧ u < n
  conn : ∀ u v : Nat, (u : Int) ∈ c → (v : Int) ∈ c → ∃ k, Wlk A n u v k
  stay : ∀ (u v : Nat) (t : List Nat), (u : Int) ∈ c → (v : Int) ∈ c → lo n t → wk A u t v → ∀ x ∈ t, (x : Int) ∈ c
theorem rp_of_wk {a : List (List Int)} {n u v : Nat} {t : List Nat} (h1 : lo n t) (h2 : wk (ent a) u t v) : RP a n v u := .inr ⟨t, h1, (wk_zA _ _ _).2 h2⟩
theorem own_in {Y : List (List Int)} {n i u : Nat} (hi : i < n) : (u : Int) ∈ ownC (wB Y n) i n ↔ u < n ∧ RP Y n i u ∧ RP Y n u i := by
  rw [ownC_mem]
  constructor
  · rintro ⟨u', h1, h2, h3⟩
    obtain rfl : u = u' := by omega
    rw [Bool.and_eq_true] at h3
    exact ⟨h1, (wB_iff hi h1).1 h3.1, (wB_iff h1 hi).1 h3.2⟩
  · rintro ⟨h1, h2, h3⟩
    exact ⟨u, h1, rfl, by rw [(wB_iff hi h1).2 h2, (wB_iff h1 hi).2 h3]; rfl⟩
theorem strong_own {Y : List (List Int)} {n i : Nat} (hi : i < n) : Strong (ent Y) n (ownC (wB Y n) i n) where
  nat v hv := by
    obtain ⟨u, h1, h2, _⟩ := ownC_mem.1 hv
    exact ⟨u, h2, h1⟩
  conn u v hu hv := by
    obtain ⟨u1, u2, u3⟩ := (own_in hi).1 hu
    obtain ⟨v1, v2, v3⟩ := (own_in hi).1 hv
    exact Wlk.of_rp (v3.trans u2 hi)
  stay u v t hu hv ht hw x hx := by
    obtain ⟨u1, u2, u3⟩ := (own_in hi).1 hu
    obtain ⟨v1, v2, v3⟩ := (own_in hi).1 hv
    obtain ⟨s, r, rfl⟩ := List.append_of_mem hx
    obtain ⟨w1, w2⟩ := (wk_app _ _ _ _ _).1 hw
    have hl := lo_app.1 ht
    have hl2 := lo_cons.1 hl.2
    exact (own_in hi).2 ⟨hl2.1, v2.trans (rp_of_wk hl2.2 w2) v1, (rp_of_wk hl.1 w1).trans u3 u1⟩
section
variable {A : Nat → Nat → Int} {n : Nat} {c : List Int}
theorem Strong.wlk_dvd (h : Strong A n c) {d : Int} (H : ∀ f m, Cy A n f m → (f : Int) ∈ c → d ∣ (m.length : Int) + 1) {v : Nat} {k : Int} (hv : (v : Int) ∈ c) (hw : Wlk A n v v k) : d ∣ k := by
  rcases hw with ⟨_, rfl⟩ | ⟨m, h1, h2, rfl⟩
  · exact Int.dvd_zero d
  · refine closed_dvd (P := fun u => (u : Int) ∈ c) (fun u hu => ?_) (fun u t hu ht hw x hx => h.stay u u t hu hu ht hw x hx) H m.length v m (Nat.le_refl _) hv h1 h2
    obtain ⟨u', e, hl⟩ := h.nat _ hu
    omega
theorem lev_sum {lev : Nat → Int} {g : Int} (H : ∀ f t : Nat, (f : Int) ∈ c → (t : Int) ∈ c → A t f ≠ -1000000000000000 → g ∣ lev f + 1 - lev t) : ∀ (m : List Nat) (x y : Nat), wk A x m y → (x : Int) ∈ c → (y : Int) ∈ c → (∀ u ∈ m, (u : Int) ∈ c) → g ∣ lev y + ((m.length : Int) + 1) - lev x
  | [], x, y, hw, hx, hy, _ => by have := H y x hy hx hw; simpa using this
  | u :: m, x, y, hw, hx, hy, hm => by
    have h1 := H u x (hm u (by simp)) hx hw.1
    have h2 := lev_sum H m u y hw.2 (hm u (by simp)) hy fun v hv => hm v (List.mem_cons_of_mem _ hv)
    have e : lev y + (((u :: m).length : Int) + 1) - lev x = (lev y + ((m.length : Int) + 1) - lev u) + (lev u + 1 - lev x) := by
      rw [List.length_cons]; omega
    rw [e]; exact Int.dvd_add h2 h1
/-- differences of levels tell the period -/
theorem lev_per (h : Strong A n c) {r : Nat} (hr : (r : Int) ∈ c) {lev : Nat → Int} (hl : ∀ u : Nat, (u : Int) ∈ c → Wlk A n u r (lev u)) {g : Int} (hg : 0 ≤ g)
    (H : ∀ d : Int, d ∣ g ↔ ∀ f t : Nat, (f : Int) ∈ c → (t : Int) ∈ c → A t f ≠ -1000000000000000 → d ∣ lev f + 1 - lev t) : IsPer A n c g := by
  refine ⟨hg, fun d => ⟨fun hd f m hc hf => ?_, fun hd => (H d).2 fun f t hf ht ha => ?_⟩⟩
  · have hw := (wk_fk _ _ _ _).2 hc.fk
    have := lev_sum ((H d).1 hd) m f f hw hf hf (h.stay f f m hf hf (lo_cons.1 hc.lo).2 hw)
    have e : lev f + ((m.length : Int) + 1) - lev f = (m.length : Int) + 1 := by omega
    rwa [e] at this
  · obtain ⟨k, hk⟩ := h.conn r t hr ht
    obtain ⟨_, ef, hfn⟩ := h.nat _ hf
    obtain ⟨_, er, hrn⟩ := h.nat _ hr
    have h1 := h.wlk_dvd hd ht (((Wlk.arc ha).trans (by omega) (hl f hf)).trans (by omega) hk)
    have h2 := h.wlk_dvd hd ht ((hl t ht).trans (by omega) hk)
    have := Int.dvd_sub h1 h2
    have e : (1 + lev f + k) - (lev t + k) = lev f + 1 - lev t := by omega
    rwa [e] at this

/-- the search for lengths, step by step -/
theorem len_close {f : Nat} {m : List Nat} (h : GOk A n f m) {g : Int} {d : Int} (ha : A f (lst f m) ≠ -1000000000000000) : d ∣ gcdI g ((m.length : Int) + 1) ↔ (d ∣ g ∧ ∀ s, s = [] → Cy A n f (s ++ m) → d ∣ ((s ++ m).length : Int) + 1) := by
  rw [gcdI_dvd]
  constructor
  · rintro ⟨h1, h2⟩; exact ⟨h1, fun s e _ => by subst e; exact h2⟩
  · rintro ⟨h1, h2⟩; exact ⟨h1, h2 [] rfl (h.close ha).1⟩
/-- d divides the lengths of the cycles that go on by nodes below v, and of the path itself when it is one -/
def LenUp (A : Nat → Nat → Int) (n f : Nat) (m : List Nat) (v : Nat) (g g' : Int) : Prop := ∀ d : Int, d ∣ g' ↔ ((d ∣ g ∧ (A f (lst f m) ≠ -1000000000000000 → d ∣ (m.length : Int) + 1)) ∧ ∀ u, f < u → u < v → u ∉ m → A u (lst f m) ≠ -1000000000000000 → ∀ s, Cy A n f (s ++ u :: m) → d ∣ ((s ++ u :: m).length : Int) + 1)
theorem LenUp.start_no {f : Nat} {m : List Nat} {g : Int} (h : A f (lst f m) = -1000000000000000) : LenUp A n f m (f + 1) g g := fun d =>
  ⟨fun hd => ⟨⟨hd, fun hn => absurd h hn⟩, fun u h1 h2 => by omega⟩, fun hd => hd.1.1⟩
theorem LenUp.start_yes {f : Nat} {m : List Nat} {g : Int} (h : A f (lst f m) ≠ -1000000000000000) : LenUp A n f m (f + 1) g (gcdI g ((m.length : Int) + 1)) := fun d => by
  rw [gcdI_dvd]
  exact ⟨fun hd => ⟨⟨hd.1, fun _ => hd.2⟩, fun u h1 h2 => by omega⟩, fun hd => ⟨hd.1.1, hd.1.2 h⟩⟩
theorem LenUp.skip {f v : Nat} {m : List Nat} {g g' : Int} (h : LenUp A n f m v g g') (hv : v ∈ m ∨ A v (lst f m) = -1000000000000000) : LenUp A n f m (v + 1) g g' := fun d => by
  rw [h d]
  refine ⟨fun hd => ⟨hd.1, fun u h1 h2 h3 h4 => ?_⟩, fun hd => ⟨hd.1, fun u h1 h2 => hd.2 u h1 (by omega)⟩⟩
  by_cases e : u = v
  · subst e
    rcases hv with h | h
    · exact absurd h h3
    · exact absurd h h4
  · exact hd.2 u h1 (by omega) h3 h4
theorem LenUp.step {f v : Nat} {m : List Nat} {g g1 g2 : Int} (h : LenUp A n f m v g g1) (h2 : LenPost A n f (v :: m) g1 g2) (hf : f < v) (hv : v ∉ m) (ha : A v (lst f m) ≠ -1000000000000000) : LenUp A n f m (v + 1) g g2 := fun d => by
  rw [h2.2 d, h d]
  constructor
  · rintro ⟨⟨h1, h2⟩, h3⟩
    refine ⟨h1, fun u k1 k2 k3 k4 s hs => ?_⟩
    by_cases e : u = v
    · subst e; exact h3 s hs
    · exact h2 u k1 (by omega) k3 k4 s hs
  · rintro ⟨h1, h2⟩
    exact ⟨⟨h1, fun u k1 k2 => h2 u k1 (by omega)⟩, fun s hs => h2 v hf (Nat.lt_succ_self v) hv ha s hs⟩
theorem LenUp.done {f : Nat} {m : List Nat} {g g' : Int} (hG : GOk A n f m) (h : LenUp A n f m n g g') (hb : 0 ≤ g' ∧ g' ≤ 10) : LenPost A n f m g g' := by
  refine ⟨hb, fun d => ?_⟩
  rw [h d]
  constructor
  · rintro ⟨⟨h1, h2⟩, h3⟩
    refine ⟨h1, fun s hs => ?_⟩
    rcases snoc_cases s with rfl | ⟨s', v, rfl⟩
    · exact h2 hs.ok.2
    · have e : (s' ++ [v]) ++ m = s' ++ v :: m := by simp
      rw [e] at hs ⊢
      have hv : v ∈ s' ++ v :: m := by simp
      have hnd := (List.nodup_append.1 (List.nodup_cons.1 hs.nd).2).2.1
      refine h3 v (hs.lt v hv) (hs.lo v (List.mem_cons_of_mem _ hv)) (List.nodup_cons.1 hnd).1 ?_ s' hs
      have hk := hs.fk
      have e2 : f :: ((s' ++ v :: m) ++ [f]) = (f :: s') ++ v :: (m ++ [f]) := by simp
      rw [e2] at hk
      have hk2 := ((fk_app A (f :: s') v (m ++ [f])).1 hk).2
      obtain ⟨r, e3, _⟩ := lst_split f m
      rw [e3] at hk2
      exact hk2.1
  · rintro ⟨h1, h2⟩
    refine ⟨⟨h1, fun ha => h2 [] (hG.close ha).1⟩, fun u k1 k2 k3 k4 s hs => ?_⟩
    have e : (s ++ [u]) ++ m = s ++ u :: m := by simp
    have := h2 (s ++ [u])
    rw [e] at this
    exact this hs
/-- the fold over a component -/
def PerUp (A : Nat → Nat → Int) (n : Nat) (c : List Int) (k : Nat) (g : Int) : Prop := (0 ≤ g ∧ g ≤ 10) ∧ ∀ d : Int, d ∣ g ↔ ∀ t, t < k → ∀ f : Nat, nth c t = (f : Int) → ∀ m, Cy A n f m → d ∣ (m.length : Int) + 1
theorem PerUp.start : PerUp A n c 0 0 := ⟨by omega, fun d => ⟨fun _ t h => absurd h (Nat.not_lt_zero _), fun _ => Int.dvd_zero d⟩⟩
theorem PerUp.step {k f : Nat} {g g' : Int} (h : PerUp A n c k g) (hf : nth c k = (f : Int)) (h2 : LenPost A n f [] g g') : PerUp A n c (k + 1) g' := by
  refine ⟨h2.1, fun d => ?_⟩
  rw [h2.2 d, h.2 d]
  constructor
  · rintro ⟨h1, h2⟩ t ht f' hf' m hm
    by_cases e : t = k
    · subst e
      obtain rfl : f' = f := by omega
      have := h2 m
      rw [List.append_nil] at this
      exact this hm
    · exact h1 t (by omega) f' hf' m hm
  · intro h1
    refine ⟨fun t ht => h1 t (by omega), fun s hs => ?_⟩
    rw [List.append_nil] at hs ⊢
    exact h1 k (Nat.lt_succ_self k) f hf s hs
theorem PerUp.done {g : Int} (h : PerUp A n c c.length g) : IsPer A n c g := by
  refine ⟨h.1.1, fun d => ?_⟩
  rw [h.2 d]
  constructor
  · intro h1 f m hc hm
    obtain ⟨t, ht, e⟩ := List.getElem_of_mem hm
    exact h1 t ht f (by unfold nth; simp [ht, e]) m hc
  · intro h1 t ht f hf m hc
    refine h1 f m hc ?_
    rw [← hf]; unfold nth; simp [ht]
end
end Go.Proofs.Ytljchmkoafahgaa
