/-
  Blocks that lie apart: a store into one slice of the call's own leaves another as it was. No program in sight.
-/
import Derived.Test.YtahbflbhkalehaaMem2
namespace Go.Proofs.Ytahbflbhkalehaa
open Go.RowKit

def AllLt (a : Option Addr) (B : Nat) : Prop := ∀ x, a = some x → x.block < B
def AllGe (a : Option Addr) (B : Nat) : Prop := ∀ x, a = some x → B ≤ x.block
theorem AllGe.mono {a : Option Addr} {B B' : Nat} (h : AllGe a B) (hB : B' ≤ B) : AllGe a B' := fun x e => Nat.le_trans hB (h x e)
theorem AllLt.mono {a : Option Addr} {B B' : Nat} (h : AllLt a B) (hB : B ≤ B') : AllLt a B' := fun x e => Nat.lt_of_lt_of_le (h x e) hB
theorem OwnI.lt {w : World} {base : Nat} {a : Option Addr} {n cap : Nat} {xs : List Int} (h : OwnI w base a n cap xs) : AllLt a w.heap.size := fun x hx => by
  rcases Own.form h with ⟨rfl, _⟩ | ⟨g, rfl, _, hb⟩
  · cases hx
  · cases hx; exact hb
theorem OwnI.ge {w : World} {base : Nat} {a : Option Addr} {n cap : Nat} {xs : List Int} (h : OwnI w base a n cap xs) : AllGe a base := h.base_le
theorem OwnI.apart {w w' : World} {base : Nat} {a A : Option Addr} {n cap : Nat} {xs : List Int} (h : OwnI w base a n cap xs) (hg : w.grownBy w' (A.map (·.block))) (hne : ∀ x y, a = some x → A = some y → x.block ≠ y.block) : OwnI w' base a n cap xs :=
  Own.kept h hg fun x hx => by
    cases A with
    | none => simp
    | some y => simp only [Option.map_some, ne_eq, Option.some.injEq]; exact hne x y hx rfl
/-- It lies below, the other one above. -/
theorem OwnI.other {w w' : World} {base : Nat} {a A : Option Addr} {n cap B : Nat} {xs : List Int} (h : OwnI w base a n cap xs) (hg : w.grownBy w' (A.map (·.block))) (h1 : AllLt a B) (h2 : AllGe A B) : OwnI w' base a n cap xs :=
  h.apart hg fun x y hx hy e => by have := h1 x hx; have := h2 y hy; omega
/-- It lies above, the other one below. -/
theorem OwnI.other' {w w' : World} {base : Nat} {a A : Option Addr} {n cap B : Nat} {xs : List Int} (h : OwnI w base a n cap xs) (hg : w.grownBy w' (A.map (·.block))) (h1 : AllLt A B) (h2 : AllGe a B) : OwnI w' base a n cap xs :=
  h.apart hg fun x y hx hy e => by have := h1 y hy; have := h2 x hx; omega
theorem Below.marked {B : Nat} {a w w' : World} {A : Option Addr} (h : Below B a w) (hB : B ≤ w.heap.size) (hg : w.grownBy w' (A.map (·.block))) (hA : AllGe A B) : Below B a w' := Below.appended h hB hg hA

/-- What a call returns that hands back ints, a string and a bool. -/
def RIntsSB (w : World) (xs : List Int) (s : ByteArray) (b : Bool) (e : Ending) (w' : World) : Prop := ∃ a n cap, e = .returned (.tuple #[.slice a n cap, .string s, .bool b]) ∧ OwnI w' w.heap.size a n cap xs ∧ Below w.heap.size w w'

theorem rval_of_same {P : Program} {f : FuncId} {args : Array Value} {w : World} {v : Value} (h : Calls P f args w fun e w' => e = .returned v ∧ w = w') : Calls P f args w (RVal w v) :=
  h.mono fun _ _ ⟨he, hw⟩ => ⟨he, hw ▸ Below.refl _ _⟩

/-- append(s, y) at ints, inside a region that draws its order: the one element lies in a block of its own. -/
theorem step_append_int {P : Program} {t : TypeId} (T : ElemTy P t 3 1 8 (.int .i64 0)) {w : World} {ops : Array Oper} {o : Oper} {a : Act} {K : Act → World → Prop} {Q : Exit → Act → World → Prop} {E : Prop} (hgd : o.guard = none) (s x : Operand)
    (ho : o.op = .call { callee := .builtin .append, args := #[s, x], argTypes := #[t, t] }) (base : Nat)
    (A : Option Addr) (n cap : Nat) (xs : List Int) (hs : a.eval s = .slice A n cap) (hown : OwnI w base A n cap xs) (g : Nat) (y : Int) (hxv : a.eval x = .slice (some ⟨g, 0, none⟩) 1 1) (hx : w.cell? ⟨g, 0, none⟩ = some (.int .i64 y))
    (hn : n ≤ 4000000) (hbase : base ≤ w.heap.size)
    (h : ∀ A' cap' w', OwnI w' base A' (n + 1) cap' (xs ++ [y]) → w.grownBy w' (A.map (·.block)) → (A' = A ∨ A' = some ⟨w.heap.size, 0, none⟩) → K (a.put o.dst (.slice A' (n + 1) cap')) w') :
    if Region.wanted o (yielded ops a.tmps) = true then Oper.wp P o a w K Q else E := by
  rw [if_pos (by simp [Region.wanted, hgd])]
  exact wp_append_cells T s x ho base A n cap _ hs hown (some ⟨g, 0, none⟩) 1 1 [.int .i64 y] hxv
    ⟨rfl, Nat.le_refl _, by unfold maxLen; omega, fun _ => ⟨g, 0, rfl, fun j u hu => by
      cases j with
      | zero => simp at hu; subst hu; exact hx
      | succ j => simp at hu⟩⟩ (by simp [Value.oneCell']) (by omega) (by omega) hbase fun A' cap' w' h2 h3 h4 => h A' cap' w' (by
    unfold OwnI; rw [List.map_append]; exact h2) h3 h4

/-- Only one block turns. -/
theorem grown_setCell (w : World) (g k : Nat) (u : Value) : w.grownBy (w.setCell ⟨g, k, none⟩ u) (some g) :=
  ⟨rfl, rfl, rfl, by simp [World.setCell], fun i _ hne => Below.heap_setCell w ⟨g, k, none⟩ u i (by
    rintro rfl
    exact hne rfl)⟩
theorem OwnI.put_other {w : World} {base : Nat} {a : Option Addr} {n cap g k : Nat} {xs : List Int} (h : OwnI w base a n cap xs) (u : Value) (hne : ∀ x, a = some x → x.block ≠ g) : OwnI (w.setCell ⟨g, k, none⟩ u) base a n cap xs :=
  Own.kept h (grown_setCell w g k u) fun x hx e => hne x hx (by injection e)

end Go.Proofs.Ytahbflbhkalehaa
