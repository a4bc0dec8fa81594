/- Plain law: the search by levels, and the cyclicity of the components. No program is entered. -/
import Derived.Test.YtljchmkoafahgaaK12
import Derived.Test.YtljchmkoafahgaaE21
namespace Go.Proofs.Ytljchmkoafahgaa
set_option linter.unusedVariables false

/-- the arcs that the search has looked at: those out of the first k nodes of its queue, and of the k-th those to the first j nodes of c -/
def Dn (A : Nat → Nat → Int) (c : List Int) (q : List Nat) (k j : Nat) (f t : Nat) : Prop := A t f ≠ -1000000000000000 ∧ ∃ a, q[a]? = some f ∧ ((a < k ∧ (t : Int) ∈ c) ∨ (a = k ∧ ∃ b, b < j ∧ b < c.length ∧ nth c b = (t : Int)))
structure Bfs (A : Nat → Nat → Int) (n : Nat) (c : List Int) (r : Nat) (L : List Int) (q : List Nat) (g : Int) (k j : Nat) : Prop where
  ll : L.length = n
  nd : q.Nodup
  inC : ∀ u, u ∈ q → (u : Int) ∈ c
  lo : lo n q
  rt : r ∈ q
  lv : ∀ u, u ∈ q → 0 ≤ nth L u ∧ nth L u < q.length ∧ Wlk A n u r (nth L u)
  un : ∀ u, u < n → u ∉ q → nth L u = -1
  s : ∀ f t, Dn A c q k j f t → t ∈ q
  gb : 0 ≤ g ∧ g ≤ 11
  gd : ∀ d : Int, d ∣ g ↔ ∀ f t, Dn A c q k j f t → d ∣ nth L f + 1 - nth L t
section
variable {A : Nat → Nat → Int} {n : Nat} {c : List Int} {r : Nat} {L : List Int} {q : List Nat} {g : Int} {k j : Nat}
theorem Dn.mem {f t : Nat} (h : Dn A c q k j f t) : f ∈ q := by
  obtain ⟨_, a, h1, _⟩ := h
  exact List.mem_of_getElem? h1
theorem nth_mem {b : Nat} (h : b < c.length) : nth c b ∈ c := by unfold nth; simp [h]
theorem Bfs.start (hr : (r : Int) ∈ c) (hn : r < n) (hL : L.length = n) (h : ∀ u, u < n → nth L u = if u = r then 0 else -1) : Bfs A n c r L [r] 0 0 0 where
  ll := hL
  nd := by simp
  inC u hu := by simp only [List.mem_singleton] at hu; subst hu; exact hr
  lo := lo_cons.2 ⟨hn, lo_nil _⟩
  rt := by simp
  lv u hu := by
    simp only [List.mem_singleton] at hu; subst hu
    rw [h u hn, if_pos rfl]
    exact ⟨by omega, by simp, .inl ⟨rfl, rfl⟩⟩
  un u hu hm := by rw [h u hu, if_neg (fun e => hm (by simp [e]))]
  s f t hd := by
    obtain ⟨_, a, _, h | ⟨_, b, h, _⟩⟩ := hd
    · omega
    · omega
  gb := by omega
  gd d := by
    refine ⟨fun _ f t hd => ?_, fun _ => Int.dvd_zero d⟩
    obtain ⟨_, a, _, h | ⟨_, b, h, _⟩⟩ := hd
    · omega
    · omega
theorem Dn.more {f t : Nat} (hj : j < c.length) : Dn A c q k (j + 1) f t ↔ (Dn A c q k j f t ∨ (A t f ≠ -1000000000000000 ∧ q[k]? = some f ∧ nth c j = (t : Int))) := by
  constructor
  · rintro ⟨h1, a, h2, h3 | ⟨rfl, b, h3, h4, h5⟩⟩
    · exact .inl ⟨h1, a, h2, .inl h3⟩
    · by_cases e : b = j
      · subst e; exact .inr ⟨h1, h2, h5⟩
      · exact .inl ⟨h1, a, h2, .inr ⟨rfl, b, by omega, h4, h5⟩⟩
  · rintro (⟨h1, a, h2, h3 | ⟨rfl, b, h3, h4⟩⟩ | ⟨h1, h2, h3⟩)
    · exact ⟨h1, a, h2, .inl h3⟩
    · exact ⟨h1, a, h2, .inr ⟨rfl, b, by omega, h4⟩⟩
    · exact ⟨h1, k, h2, .inr ⟨rfl, j, by omega, hj, h3⟩⟩
theorem Dn.app {f t v : Nat} (hk : k < q.length) : Dn A c (q ++ [v]) k j f t ↔ Dn A c q k j f t := by
  have e : ∀ a, a ≤ k → (q ++ [v])[a]? = q[a]? := fun a ha => List.getElem?_append_left (by omega)
  constructor
  · rintro ⟨h1, a, h2, h3⟩
    rw [e a (by rcases h3 with h | h <;> omega)] at h2
    exact ⟨h1, a, h2, h3⟩
  · rintro ⟨h1, a, h2, h3⟩
    rw [← e a (by rcases h3 with h | h <;> omega)] at h2
    exact ⟨h1, a, h2, h3⟩
theorem Bfs.qlen (h : Bfs A n c r L q g k j) : q.length ≤ n := nodup_len n q h.nd h.lo
theorem Bfs.skip (h : Bfs A n c r L q g k j) (hj : j < c.length) {f t : Nat} (hf : q[k]? = some f) (ht : nth c j = (t : Int)) (ha : A t f = -1000000000000000) : Bfs A n c r L q g k (j + 1) := by
  have e : ∀ f t, Dn A c q k (j + 1) f t ↔ Dn A c q k j f t := fun f' t' => by
    rw [Dn.more hj]
    refine ⟨fun h1 => ?_, .inl⟩
    rcases h1 with h1 | ⟨h1, h2, h3⟩
    · exact h1
    · rw [hf] at h2
      obtain rfl : f = f' := by simpa using h2
      obtain rfl : t' = t := by omega
      exact absurd ha h1
  exact { h with s := fun f t hd => h.s f t ((e f t).1 hd), gd := fun d => by rw [h.gd d]; simp only [e] }
theorem Bfs.reach (h : Bfs A n c r L q g k j) (hk : k < q.length) (hj : j < c.length) {f t : Nat} (hf : q[k]? = some f) (ht : nth c j = (t : Int)) (htn : t < n) (ha : A t f ≠ -1000000000000000) (hl : nth L t < 0) :
    Bfs A n c r (L.set t (nth L f + 1)) (q ++ [t]) g k (j + 1) := by
  have hfq : f ∈ q := List.mem_of_getElem? hf
  have hlf := h.lv f hfq
  have htq : t ∉ q := fun hm => by have := (h.lv t hm).1; omega
  have hne : ∀ u, u ∈ q → u ≠ t := fun u hu e => htq (e ▸ hu)
  have hs : ∀ u, nth (L.set t (nth L f + 1)) u = if u = t then nth L f + 1 else nth L u := fun u => nth_set _ _ _ _ (by rw [h.ll]; exact htn)
  have hD : ∀ f' t', Dn A c (q ++ [t]) k (j + 1) f' t' ↔ (Dn A c q k j f' t' ∨ (f' = f ∧ t' = t)) := fun f' t' => by
    rw [Dn.app hk, Dn.more hj]
    constructor
    · rintro (h1 | ⟨h1, h2, h3⟩)
      · exact .inl h1
      · rw [hf] at h2
        exact .inr ⟨(Option.some.inj h2).symm, by omega⟩
    · rintro (h1 | ⟨rfl, rfl⟩)
      · exact .inl h1
      · exact .inr ⟨ha, hf, ht⟩
  constructor
  · rw [List.length_set]; exact h.ll
  · rw [List.nodup_append]
    refine ⟨h.nd, by simp, fun a haq b hb e => ?_⟩
    simp only [List.mem_singleton] at hb
    exact hne a haq (e.trans hb)
  · intro u hu
    rcases List.mem_append.1 hu with hu | hu
    · exact h.inC u hu
    · simp only [List.mem_singleton] at hu; subst hu; rw [← ht]; exact nth_mem hj
  · exact lo_app.2 ⟨h.lo, lo_cons.2 ⟨htn, lo_nil _⟩⟩
  · exact List.mem_append.2 (.inl h.rt)
  · intro u hu
    rw [hs u, List.length_append]
    rcases List.mem_append.1 hu with hu | hu
    · rw [if_neg (hne u hu)]
      have := h.lv u hu
      refine ⟨this.1, ?_, this.2.2⟩
      have := this.2.1
      simp; omega
    · simp only [List.mem_singleton] at hu; subst hu
      rw [if_pos rfl]
      refine ⟨by omega, by simp; omega, ?_⟩
      have := (Wlk.arc ha).trans (h.lo f hfq) hlf.2.2
      rwa [Int.add_comm] at this
  · intro u hu hm
    have hm' : u ∉ q ∧ u ≠ t := by simpa using hm
    rw [hs u, if_neg hm'.2]; exact h.un u hu hm'.1
  · intro f' t' hd
    rcases (hD f' t').1 hd with h1 | ⟨_, rfl⟩
    · exact List.mem_append.2 (.inl (h.s f' t' h1))
    · simp
  · exact h.gb
  · intro d
    rw [h.gd d]
    constructor
    · intro h1 f' t' hd
      rcases (hD f' t').1 hd with h2 | ⟨rfl, rfl⟩
      · have h3 := h1 f' t' h2
        rw [hs f', hs t', if_neg (hne _ h2.mem), if_neg (hne _ (h.s _ _ h2))]; exact h3
      · rw [hs f', hs t', if_neg (hne _ hfq), if_pos rfl]
        rw [Int.sub_self]; exact Int.dvd_zero d
    · intro h1 f' t' h2
      have h3 := h1 f' t' ((hD f' t').2 (.inl h2))
      rw [hs f', hs t', if_neg (hne _ h2.mem), if_neg (hne _ (h.s _ _ h2))] at h3; exact h3
theorem Bfs.meet (h : Bfs A n c r L q g k j) (hn : n ≤ 10) (hj : j < c.length) {f t : Nat} (hf : q[k]? = some f) (ht : nth c j = (t : Int)) (htn : t < n) (ha : A t f ≠ -1000000000000000) (hl : ¬ nth L t < 0) :
    Bfs A n c r L q (gcdI (absI (nth L f + 1 - nth L t)) g) k (j + 1) := by
  have hfq : f ∈ q := List.mem_of_getElem? hf
  have htq : t ∈ q := Classical.byContradiction fun hm => by have := h.un t htn hm; omega
  have hlf := h.lv f hfq
  have hlt := h.lv t htq
  have hql := h.qlen
  have hD : ∀ f' t', Dn A c q k (j + 1) f' t' ↔ (Dn A c q k j f' t' ∨ (f' = f ∧ t' = t)) := fun f' t' => by
    rw [Dn.more hj]
    constructor
    · rintro (h1 | ⟨h1, h2, h3⟩)
      · exact .inl h1
      · rw [hf] at h2
        exact .inr ⟨(Option.some.inj h2).symm, by omega⟩
    · rintro (h1 | ⟨rfl, rfl⟩)
      · exact .inl h1
      · exact .inr ⟨ha, hf, ht⟩
  have hab : 0 ≤ absI (nth L f + 1 - nth L t) ∧ absI (nth L f + 1 - nth L t) ≤ 11 := by
    unfold absI; split <;> omega
  refine { h with s := fun f' t' hd => ?_, gb := gcdI_ten hab h.gb, gd := fun d => ?_ }
  · rcases (hD f' t').1 hd with h1 | ⟨_, rfl⟩
    · exact h.s f' t' h1
    · exact htq
  · rw [gcdI_abs, gcdI_dvd, h.gd d]
    constructor
    · rintro ⟨h1, h2⟩ f' t' hd
      rcases (hD f' t').1 hd with h3 | ⟨rfl, rfl⟩
      · exact h2 f' t' h3
      · exact h1
    · intro h1
      exact ⟨h1 f t ((hD f t).2 (.inr ⟨rfl, rfl⟩)), fun f' t' h2 => h1 f' t' ((hD f' t').2 (.inl h2))⟩
theorem Bfs.next (h : Bfs A n c r L q g k c.length) : Bfs A n c r L q g (k + 1) 0 := by
  have e : ∀ f t, Dn A c q (k + 1) 0 f t ↔ Dn A c q k c.length f t := fun f t => by
    constructor
    · rintro ⟨h1, a, h2, ⟨h3, h4⟩ | ⟨_, b, h3, _⟩⟩
      · by_cases e : a = k
        · subst e
          obtain ⟨b, hb, e⟩ := List.getElem_of_mem h4
          exact ⟨h1, a, h2, .inr ⟨rfl, b, hb, hb, by unfold nth; simp [hb, e]⟩⟩
        · exact ⟨h1, a, h2, .inl ⟨by omega, h4⟩⟩
      · omega
    · rintro ⟨h1, a, h2, ⟨h3, h4⟩ | ⟨rfl, b, h3, h4, h5⟩⟩
      · exact ⟨h1, a, h2, .inl ⟨by omega, h4⟩⟩
      · exact ⟨h1, a, h2, .inl ⟨by omega, by rw [← h5]; exact nth_mem h4⟩⟩
  exact { h with s := fun f t hd => h.s f t ((e f t).1 hd), gd := fun d => by rw [h.gd d]; simp only [e] }
theorem Bfs.done (hS : Strong A n c) (h : Bfs A n c r L q g q.length 0) : IsPer A n c g := by
  have hD : ∀ f t : Nat, f ∈ q → (t : Int) ∈ c → A t f ≠ -1000000000000000 → Dn A c q q.length 0 f t := fun f t hf ht ha => by
    obtain ⟨a, ha2, e⟩ := List.getElem_of_mem hf
    exact ⟨ha, a, by rw [List.getElem?_eq_getElem ha2, e], .inl ⟨ha2, ht⟩⟩
  have hrc := h.inC r h.rt
  have hall : ∀ u : Nat, (u : Int) ∈ c → u ∈ q := by
    intro u hu
    obtain ⟨k, hk⟩ := hS.conn u r hu hrc
    rcases hk with ⟨rfl, _⟩ | ⟨m, h1, h2, h3⟩
    · exact h.rt
    · have hin := hS.stay u r m hu hrc h1 h2
      clear h1 h3
      induction m generalizing u with
      | nil => exact h.s r u (hD r u h.rt hu h2)
      | cons y m ih =>
        have hy := hin y (by simp)
        have hyq := ih y hy h2.2 fun x hx => hin x (List.mem_cons_of_mem _ hx)
        exact h.s y u (hD y u hyq hu h2.1)
  refine lev_per hS hrc (fun u hu => (h.lv u (hall u hu)).2.2) h.gb.1 fun d => ?_
  rw [h.gd d]
  constructor
  · intro h1 f t hf ht ha; exact h1 f t (hD f t (hall f hf) ht ha)
  · intro h1 f t hd
    exact h1 f t (h.inC f hd.mem) (h.inC t (h.s f t hd)) hd.1
end
/-- the least common multiple as both sides reckon it -/
def cycR (p : Nat → Int) : Nat → Int
  | 0 => 1
  | k + 1 => (cycR p k).tdiv (gcdI (cycR p k) (p k)) * p k
theorem cyc_step {c p : Int} {k : Nat} (hc : 1 ≤ c) (hk : c ≤ 10 ^ k) (hp : 1 ≤ p ∧ p ≤ 10) : 1 ≤ c.tdiv (gcdI c p) ∧ c.tdiv (gcdI c p) ≤ c ∧ 1 ≤ c.tdiv (gcdI c p) * p ∧ c.tdiv (gcdI c p) * p ≤ 10 ^ (k + 1) := by
  have hg := gcdI_le (a := c) (b := p) (by omega)
  have hgd : gcdI c p ∣ c := (gcdI_dvd.1 (Int.dvd_refl _)).1
  have e : c.tdiv (gcdI c p) = c / gcdI c p := Int.tdiv_eq_ediv_of_dvd hgd
  have h1 : 1 ≤ c / gcdI c p := by
    have := Int.le_of_dvd (by omega) hgd
    exact (Int.le_ediv_iff_mul_le hg.1).2 (by omega)
  have h2 : c / gcdI c p ≤ c := Int.ediv_le_self _ (by omega)
  rw [e]
  refine ⟨h1, h2, ?_, ?_⟩
  · have := Int.mul_le_mul h1 hp.1 (by omega) (by omega); omega
  · have h3 := Int.mul_le_mul (Int.le_trans h2 hk) hp.2 (by omega) (by omega)
    rw [Int.pow_succ]; exact h3
theorem pow_ten {k : Nat} (h : k ≤ 10) : (10 : Int) ^ k ≤ 10000000000 := by
  have : k = 0 ∨ k = 1 ∨ k = 2 ∨ k = 3 ∨ k = 4 ∨ k = 5 ∨ k = 6 ∨ k = 7 ∨ k = 8 ∨ k = 9 ∨ k = 10 := by omega
  rcases this with rfl | rfl | rfl | rfl | rfl | rfl | rfl | rfl | rfl | rfl | rfl <;> decide
section
variable {x : List (List Int)} {R : Int × Int}
theorem critCs_own {k : Nat} (hk : k < (critCs x R).length) : ∃ i, i < x.length ∧ row (critCs x R) k = ownC (wB (critM x R) x.length) i x.length ∧ nth (row (critCs x R) k) 0 = (i : Int) ∧ delB (critM x R) (row (critCs x R) k) = false := by
  have hm : row (critCs x R) k ∈ critCs x R := by rw [row_of_lt hk]; exact List.getElem_mem hk
  generalize row (critCs x R) k = c at *
  unfold critCs at hm
  rw [List.mem_filter] at hm
  obtain ⟨i, h1, h2, h3⟩ := compsM_mem.1 hm.1
  exact ⟨i, h1, h2, h3, by simpa using hm.2⟩
theorem critCs_strong {k : Nat} (hk : k < (critCs x R).length) : Strong (ent (critM x R)) x.length (row (critCs x R) k) := by
  obtain ⟨i, h1, h2, _⟩ := critCs_own hk
  rw [h2]; exact strong_own h1
/-- a component that is kept holds a cycle -/
theorem per_pos {k : Nat} (hk : k < (critCs x R).length) {p : Int} (hp : IsPer (ent (critM x R)) x.length (row (critCs x R) k) p) : 1 ≤ p := by
  have hS := critCs_strong hk
  obtain ⟨i, h1, h2, h3, h4⟩ := critCs_own hk
  have hii : (i : Int) ∈ row (critCs x R) k := by
    rw [h2]; exact ownC_mem.2 ⟨i, h1, rfl, by rw [wB_refl]; rfl⟩
  have hex : ∃ (v : Nat) (l : Int), (v : Int) ∈ row (critCs x R) k ∧ 1 ≤ l ∧ Wlk (ent (critM x R)) x.length v v l := by
    by_cases hl : (row (critCs x R) k).length = 1
    · have hne : ent (critM x R) i i ≠ -1000000000000000 := by
        unfold delB at h4
        rw [hl, h3] at h4
        simpa using h4
      exact ⟨i, 1, hii, by omega, Wlk.arc hne⟩
    · have hex : ∃ u, u < x.length ∧ (wB (critM x R) x.length i u && wB (critM x R) x.length u i) = true ∧ u ≠ i := Classical.byContradiction fun hno => by
        apply hl
        rw [h2, ownC_single (wB_refl _ _ _) (fun u hu hw => Classical.byContradiction fun hne => hno ⟨u, hu, hw, hne⟩) x.length (Nat.le_refl _), if_pos h1]; rfl
      obtain ⟨u, hu, hw, hne⟩ := hex
      have huc : (u : Int) ∈ row (critCs x R) k := by rw [h2]; exact ownC_mem.2 ⟨u, hu, rfl, hw⟩
      obtain ⟨k1, hk1⟩ := hS.conn i u hii huc
      obtain ⟨k2, hk2⟩ := hS.conn u i huc hii
      have p1 : ∀ (a b : Nat) (l : Int), a ≠ b → Wlk (ent (critM x R)) x.length a b l → 1 ≤ l := fun a b l hab hw => by
        rcases hw with ⟨e, _⟩ | ⟨m, _, _, rfl⟩
        · exact absurd e hab
        · omega
      have a1 := p1 i u k1 (fun e => hne e.symm) hk1
      have a2 := p1 u i k2 hne hk2
      exact ⟨i, k1 + k2, hii, by omega, hk1.trans hu hk2⟩
  obtain ⟨v, l, hv, hl, hw⟩ := hex
  refine Classical.byContradiction fun hn => ?_
  obtain rfl : p = 0 := by have := hp.1; omega
  have := hS.wlk_dvd ((hp.2 0).1 (Int.dvd_refl 0)) hv hw
  have := Int.zero_dvd.1 this
  omega
noncomputable def cycP (x : List (List Int)) (R : Int × Int) (k : Nat) : Int := perV (ent (critM x R)) x.length (row (critCs x R) k)
noncomputable def cyclV (x : List (List Int)) : Int × Int := if isSq x then (match bestO x x.length with | none => (0, 4) | some R => (cycR (cycP x R) (critCs x R).length, 0)) else (0, 1)
end
end Go.Proofs.Ytljchmkoafahgaa
