/-
  What the drawing of strips hands back: some list and some text, both short.
-/
import Derived.Test.YtgabegdoofolnaaDraw
namespace Go.Proofs.Ytgabegdoofolnaa
open Go.RowKit

theorem grown_own {w w1 w2 : World} {g : Nat} {A : Option Addr} (h : w.grownBy w1 (some g)) (h' : w1.grownBy w2 (A.map (·.block))) (hA : AllGe A w.heap.size) : w.grownBy w2 (some g) :=
  ⟨h'.1.trans h.1, h'.2.trans h.2, h'.3.trans h.3, Nat.le_trans h.4 h'.4, fun i hi hne => (h'.5 i (Nat.lt_of_lt_of_le hi h.4) (by
    cases A with
    | none => simp
    | some x => have := hA x rfl; simp only [Option.map_some, ne_eq, Option.some.injEq]; omega)).trans (h.5 i hi hne)⟩
theorem grown_set {w w1 : World} {g b k : Nat} {u : Value} (h : w.grownBy w1 (some g)) (hb : w.heap.size ≤ b) : w.grownBy (w1.setCell ⟨b, k, none⟩ u) (some g) :=
  grown_own (A := some ⟨b, 0, none⟩) h (grown_setCell w1 b k u) (fun x e => by cases e; exact hb)
theorem OwnI.asked {w w' : World} {g base : Nat} {a : Option Addr} {n cap : Nat} {xs : List Int} (h : OwnI w base a n cap xs) (hg : w.grownBy w' (some g)) (hb : g < base) : OwnI w' base a n cap xs :=
  Own.kept h hg fun x hx e => by
    have := h.base_le x hx
    injection e with e
    omega
theorem Rd.own {w w' : World} {g p : Nat} {A : Option Addr} (h : Rd w g p) (hg : w.grownBy w' (A.map (·.block))) (hA : AllGe A (g + 1)) : Rd w' g p := by
  obtain ⟨a, n, cap, bs, h0, h1, hf, hbs, hn, hne⟩ := h
  have hlt := World.block_lt_of_cell? _ _ h0
  have hb : w'.heap[g]? = w.heap[g]? := hg.5 g hlt (by
    cases A with
    | none => simp
    | some x => have := hA x rfl; simp only [Option.map_some, ne_eq, Option.some.injEq]; omega)
  refine ⟨a, n, cap, bs, (World.cell?_of_block (a := ⟨g, 0, none⟩) hb).trans h0, (World.cell?_of_block (a := ⟨g, 1, none⟩) hb).trans h1, (World.frozen?_of_block (a := ⟨g, 1, none⟩) hb).trans hf, ⟨?_, hbs.2⟩, hn, hne⟩
  cases A with
  | none =>
    exact cells_kept hbs.1 fun p u hc => by
      have := World.block_lt_of_cell? _ _ hc
      rw [World.cell?_of_block (hg.5 p.block this (by simp))]
      exact hc
  | some x =>
    exact Cells.apart hbs.1 (g := x.block) hg fun h0' y hy => by
      have := hne h0' y hy
      have := hA x rfl
      omega
theorem Rd.set {w : World} {g p b k : Nat} {u : Value} (h : Rd w g p) (hb : g < b) : Rd (w.setCell ⟨b, k, none⟩ u) g p :=
  Rd.own (A := some ⟨b, 0, none⟩) h (grown_setCell w b k u) (fun x e => by cases e; exact hb)

/-- What the drawing of a list and a text hands back. -/
def RListText (w : World) (g p q : Nat) (e : Ending) (w' : World) : Prop := ∃ (a : Option Addr) (n cap : Nat) (xs : List Int) (s : ByteArray), e = .returned (.tuple #[.slice a n cap, .string s]) ∧ OwnI w' w.heap.size a n cap xs ∧ n ≤ 10 ∧ s.size ≤ 20 ∧ (∃ p', p' ≤ p + q ∧ Rd w' g p') ∧ w.grownBy w' (some g)

/-- What the drawing of a list and a text hands back, to the law. -/
def RLT (w : World) (e : Ending) (w' : World) : Prop := ∃ (a : Option Addr) (n cap : Nat) (xs : List Int) (s : ByteArray), e = .returned (.tuple #[.slice a n cap, .string s]) ∧ OwnI w' w.heap.size a n cap xs ∧ n ≤ 10 ∧ s.size ≤ 20 ∧ Below w.heap.size w w'
/-- What the drawing of a list hands back, to the law. -/
def RL (w : World) (e : Ending) (w' : World) : Prop := ∃ (a : Option Addr) (n cap : Nat) (xs : List Int), e = .returned (.slice a n cap) ∧ Ints w' a n cap xs ∧ n ≤ 10 ∧ Below w.heap.size w w'

end Go.Proofs.Ytgabegdoofolnaa
