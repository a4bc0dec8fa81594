/- Slices of strings: read, and made by the call itself. Definitions and lemmas; no condition but the sizes. -/
import Derived.Test.YtkipbfjkcdccjaaDoorT0
import Derived.Test.YtkipbfjkcdccjaaDoorGB
namespace Go.Proofs.YtkipbfjkcdccjaaDoor
set_option linter.unusedVariables false
open Go.RowKit

theorem info_s : (Tryd.prog.info? 9).map (fun i => (i.zero, i.size, i.bytes)) = some (some (.string ByteArray.empty), 1, 16) := by kernel_rfl
/-- a text as a value -/
def sv (l : List UInt8) : Value := .string ⟨l.toArray⟩
theorem sv_eq (l : List UInt8) : sv l = .string ⟨l.toArray⟩ := rfl
theorem sv_mk (s : ByteArray) : Value.string s = sv s.data.toList := rfl
/-- piece k of a list of texts -/
def pc (ss : List (List UInt8)) (k : Nat) : List UInt8 := ss.getD k []
theorem pc_at {ss : List (List UInt8)} {k : Nat} (h : k < ss.length) : pc ss k = ss[k] := by simp [pc, h]

/-- the cells of a slice of strings that is read -/
def StrsAt (w : World) (a : Option Addr) (ss : List (List UInt8)) : Prop :=
  ss.length ≤ 9223372036854775807 ∧ (ss ≠ [] → ∃ b o, a = some ⟨b, o, none⟩ ∧ ∀ i, i < ss.length → w.cell? ⟨b, o + i, none⟩ = some (.string ⟨(pc ss i).toArray⟩))
theorem StrsAt.at {w : World} {a : Option Addr} {ss : List (List UInt8)} (h : StrsAt w a ss) {i : Nat} (hi : i < ss.length) :
    ∃ b o, a = some ⟨b, o, none⟩ ∧ ∀ i, i < ss.length → w.cell? ⟨b, o + i, none⟩ = some (.string ⟨(pc ss i).toArray⟩) := by
  refine h.2 ?_; rintro rfl; simp at hi
theorem StrsAt.nil (w : World) (a : Option Addr) : StrsAt w a [] := ⟨by simp, fun h => absurd rfl h⟩
theorem StrsAt.mono {w w' : World} {a : Option Addr} {ss : List (List UInt8)} (h : StrsAt w a ss) (e : Ext w w') : StrsAt w' a ss :=
  ⟨h.1, fun hn => by obtain ⟨b, o, ha, hc⟩ := h.2 hn; exact ⟨b, o, ha, fun i hi => e.cell (hc i hi)⟩⟩

/-- v is a slice of new memory (from block B on) that holds the strings ss -/
def OwnS (w : World) (B : Nat) (v : Value) (ss : List (List UInt8)) : Prop := w.ownsRow B 9 1 v ss.length (ss.map sv)
theorem OwnS.agree {w w' : World} {B : Nat} {v : Value} {ss : List (List UInt8)} (h : OwnS w B v ss) (e : ∀ k, v.ownBlock = some k → w'.heap[k]? = w.heap[k]?) : OwnS w' B v ss := by
  refine ⟨h.1, ?_⟩
  rcases h.2 with h2 | ⟨g, cap, cur, h1, h2, h3, h4⟩
  · exact .inl h2
  · exact .inr ⟨g, cap, cur, h1, h2, by rw [e g (by rw [h1]; rfl)]; exact h3, h4⟩
theorem OwnS.lt {w : World} {B : Nat} {v : Value} {ss : List (List UInt8)} (h : OwnS w B v ss) {k : Nat} (hk : v.ownBlock = some k) : B ≤ k ∧ k < w.heap.size := World.ownsRow.lt h k hk
theorem OwnS.ext {w w' : World} {B : Nat} {v : Value} {ss : List (List UInt8)} (h : OwnS w B v ss) (e : Ext w w') : OwnS w' B v ss :=
  h.agree fun k hk => Below.block e k (h.lt hk).2
/-- the form of such a slice -/
theorem OwnS.form {w : World} {B : Nat} {v : Value} {ss : List (List UInt8)} (h : OwnS w B v ss) :
    (v = .slice none 0 0 ∧ ss = []) ∨ ∃ g cap, v = .slice (some ⟨g, 0, none⟩) ss.length cap ∧ B ≤ g ∧ g < w.heap.size ∧ ss.length ≤ cap ∧ cap ≤ 9223372036854775807 ∧
      (∀ j, j < ss.length → w.cell? ⟨g, j, none⟩ = some (.string ⟨(pc ss j).toArray⟩)) ∧ (∀ j, w.frozen? ⟨g, j, none⟩ = false) := by
  rcases h.2 with ⟨h1, h2⟩ | ⟨g, cap, cur, h1, h2, h3, h4, h5, _⟩
  · exact .inl ⟨h1, List.eq_nil_of_length_eq_zero h2⟩
  · subst h1
    refine .inr ⟨g, cap, rfl, h2, (Array.getElem?_eq_some_iff.1 h3).1, h4, h5, fun j hj => ?_, fun j => World.ownsRow.frozenAt h j⟩
    rw [World.ownsRow.cellAt h j (by omega)]
    simp [pc, sv, hj]
theorem OwnS.at {w : World} {B : Nat} {v : Value} {ss : List (List UInt8)} (h : OwnS w B v ss) : ∃ a cap, v = .slice a ss.length cap ∧ StrsAt w a ss ∧ ss.length ≤ cap := by
  rcases h.form with ⟨rfl, rfl⟩ | ⟨g, cap, rfl, _, _, h1, h2, hc, _⟩
  · exact ⟨none, 0, rfl, StrsAt.nil _ _, Nat.zero_le _⟩
  · exact ⟨_, cap, rfl, ⟨by omega, fun _ => ⟨g, 0, rfl, fun i hi => by simpa using hc i hi⟩⟩, h1⟩
theorem OwnS.base {w : World} {B : Nat} {v : Value} {ss : List (List UInt8)} (h : OwnS w B v ss) : ∀ k, v.ownBlock = some k → B ≤ k := fun k hk => (h.lt hk).1
theorem OwnS.empty (w : World) (B : Nat) (hB : B ≤ w.heap.size) : OwnS (w.alloc (.cells #[] 9)) B (.slice (some ⟨w.heap.size, 0, none⟩) 0 0) [] := by
  refine ⟨rfl, .inr ⟨w.heap.size, 0, #[], rfl, hB, (show (w.heap.push (.cells #[] 9))[w.heap.size]? = _ by simp), Nat.le_refl _, by omega, rfl, rfl⟩⟩
/-- a store into such a slice -/
theorem OwnS.set {w : World} {B g cap : Nat} {ss : List (List UInt8)} (h : OwnS w B (.slice (some ⟨g, 0, none⟩) ss.length cap) ss) (j : Nat) (x : List UInt8) :
    OwnS (w.setCell ⟨g, j, none⟩ (.string ⟨x.toArray⟩)) B (.slice (some ⟨g, 0, none⟩) ss.length cap) (ss.set j x) := by
  have := (World.ownsRow.stored h j (sv x)).1
  unfold OwnS
  rw [List.map_set, List.length_set]
  exact this
/-- what make has laid -/
theorem OwnS.made (w : World) (B n : Nat) (hB : B ≤ w.heap.size) (hn : n ≤ 9223372036854775807) :
    OwnS (w.alloc (.cells (madeCells #[.string ByteArray.empty] n) 9)) B (.slice (some ⟨w.heap.size, 0, none⟩) (List.replicate n ([] : List UInt8)).length n) (List.replicate n []) := by
  obtain ⟨c, hb, hs, hc⟩ := World.rowIs_made w (.string ByteArray.empty) n 9
  refine ⟨by simp, .inr ⟨w.heap.size, n, c, by simp, hB, hb, by simp, hn, by omega, ?_⟩⟩
  rw [List.take_of_length_le (by simp; omega)]
  apply List.ext_getElem
  · simp; omega
  · intro i h1 h2
    have h3 : i < n := by simpa using h2
    have := hc i h3
    simp only [Array.getElem_toList, List.getElem_map, List.getElem_replicate]
    rw [Array.getElem?_eq_getElem (by omega)] at this
    simp only [Option.some.injEq] at this
    rw [this]; rfl
theorem grown_s {w0 wr w' : World} {B : Nat} {v : Value} {ss : List (List UInt8)} {o : Obj} (hE : Ext w0 wr) (hO : OwnS wr B v ss) (hB : w0.heap.size ≤ B) (hg : (wr.alloc o).grownBy w' v.ownBlock) : Ext w0 w' :=
  (hE.alloc o).grown hg fun k hk => Nat.le_trans hB (hO.base k hk)
/-- append of one string -/
theorem app_s {ops : Array Oper} {rest : List Oper} {o : Oper} {a : Act} {Q : Exit → Act → World → Prop} {w : World} (hgd : o.guard = none) (s x : Operand)
    (ho : o.op = .call { callee := .builtin .append, args := #[s, x], argTypes := #[39, 39] })
    (B : Nat) (v : Value) (ss : List (List UInt8)) (hs : a.eval s = v) (hown : OwnS w B v ss) (ad : Addr) (c : Nat) (y : List UInt8) (hx : a.eval x = .slice (some ad) 1 c) (hc : w.cell? ad = some (.string ⟨y.toArray⟩))
    (hl : ss.length ≤ 1000000000) (hB : B ≤ w.heap.size)
    (h : ∀ v' w', OwnS w' B v' (ss ++ [y]) → w.grownBy w' v.ownBlock → wpList Tryd.prog ops Q rest (a.put o.dst v') w') : wpList Tryd.prog ops Q (o :: rest) a w := by
  obtain ⟨i0, hi, hz0, hz1, hz2⟩ := info_parts info_s
  refine wpList_append_own w hgd s x 39 ho B 9 i0 (.string ByteArray.empty) 1 16 Tryd.underlying39 hi hz0 hz1 hz2 rfl (by decide) v ss.length (ss.map sv) hs hown ad 1 c [sv y] hx rfl ?_ ?_ ?_ ?_ hB ?_
  · intro j u hj
    match j, hj with
    | 0, hj =>
      simp only [List.getElem?_cons_zero, Option.some.injEq] at hj
      subst hj
      have : ad.add 0 = ad := by simp [Addr.add]
      rw [this]; exact hc
  · intro u hu; simp only [List.mem_singleton] at hu; subst hu; rfl
  · have : maxLen = 9223372036854775807 := rfl
    omega
  · omega
  · intro v' w' h1 h2 _
    refine h v' w' ?_ h2
    unfold OwnS
    simpa using h1
/-- a call that hands back a new slice of strings -/
def GivesS (w : World) (ss : List (List UInt8)) (e : Ending) (w' : World) : Prop := ∃ a cap, e = .returned (.slice a ss.length cap) ∧ OwnS w' w.heap.size (.slice a ss.length cap) ss ∧ Ext w w'
end Go.Proofs.YtkipbfjkcdccjaaDoor
