/-
  Blocks that lie apart: a store into one slice of the call's own leaves another as it was. No program in sight.
-/
import Derived.Test.YtkhdmihmpkocpaaMem2
namespace Go.Proofs.Ytkhdmihmpkocpaa
open Go.RowKit

def AllLt (a : Option Addr) (B : Nat) : Prop := ∀ x, a = some x → x.block < B
def AllGe (a : Option Addr) (B : Nat) : Prop := ∀ x, a = some x → B ≤ x.block
theorem AllGe.mono {a : Option Addr} {B B' : Nat} (h : AllGe a B) (hB : B' ≤ B) : AllGe a B' := fun x e => Nat.le_trans hB (h x e)
theorem AllLt.mono {a : Option Addr} {B B' : Nat} (h : AllLt a B) (hB : B ≤ B') : AllLt a B' := fun x e => Nat.lt_of_lt_of_le (h x e) hB
theorem OwnI.lt {w : World} {base : Nat} {a : Option Addr} {n cap : Nat} {xs : List Int} (h : OwnI w base a n cap xs) : AllLt a w.heap.size := fun x hx => by
  rcases Own.form h with ⟨rfl, _⟩ | ⟨g, rfl, _, hb⟩
  · cases hx
  · cases hx; exact hb
theorem OwnI.ge {w : World} {base : Nat} {a : Option Addr} {n cap : Nat} {xs : List Int} (h : OwnI w base a n cap xs) : AllGe a base := h.base_le
theorem OwnI.apart {w w' : World} {base : Nat} {a A : Option Addr} {n cap : Nat} {xs : List Int} (h : OwnI w base a n cap xs) (hg : w.grownBy w' (A.map (·.block))) (hne : ∀ x y, a = some x → A = some y → x.block ≠ y.block) : OwnI w' base a n cap xs :=
  Own.kept h hg fun x hx => by
    cases A with
    | none => simp
    | some y => simp only [Option.map_some, ne_eq, Option.some.injEq]; exact hne x y hx rfl
/-- It lies below, the other one above. -/
theorem OwnI.other {w w' : World} {base : Nat} {a A : Option Addr} {n cap B : Nat} {xs : List Int} (h : OwnI w base a n cap xs) (hg : w.grownBy w' (A.map (·.block))) (h1 : AllLt a B) (h2 : AllGe A B) : OwnI w' base a n cap xs :=
  h.apart hg fun x y hx hy e => by have := h1 x hx; have := h2 y hy; omega
/-- It lies above, the other one below. -/
theorem OwnI.other' {w w' : World} {base : Nat} {a A : Option Addr} {n cap B : Nat} {xs : List Int} (h : OwnI w base a n cap xs) (hg : w.grownBy w' (A.map (·.block))) (h1 : AllLt A B) (h2 : AllGe a B) : OwnI w' base a n cap xs :=
  h.apart hg fun x y hx hy e => by have := h1 y hy; have := h2 x hx; omega
theorem Below.marked {B : Nat} {a w w' : World} {A : Option Addr} (h : Below B a w) (hB : B ≤ w.heap.size) (hg : w.grownBy w' (A.map (·.block))) (hA : AllGe A B) : Below B a w' := Below.appended h hB hg hA

/-- What a call returns that hands back ints, a string and a bool. -/
def RIntsSB (w : World) (xs : List Int) (s : ByteArray) (b : Bool) (e : Ending) (w' : World) : Prop := ∃ a n cap, e = .returned (.tuple #[.slice a n cap, .string s, .bool b]) ∧ OwnI w' w.heap.size a n cap xs ∧ Below w.heap.size w w'

theorem rval_of_same {P : Program} {f : FuncId} {args : Array Value} {w : World} {v : Value} (h : Calls P f args w fun e w' => e = .returned v ∧ w = w') : Calls P f args w (RVal w v) :=
  h.mono fun _ _ ⟨he, hw⟩ => ⟨he, hw ▸ Below.refl _ _⟩

end Go.Proofs.Ytkhdmihmpkocpaa
