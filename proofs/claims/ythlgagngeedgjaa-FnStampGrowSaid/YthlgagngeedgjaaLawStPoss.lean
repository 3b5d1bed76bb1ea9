/-
  The walk through the law on StampPossible: it returns true.
-/
import Derived.Test.YthlgagngeedgjaaDraw4
namespace Go.Proofs.Ythlgagngeedgjaa
open Go.RowKit

theorem apart_new {a B B' : Option Addr} {W : World} (ha : AllLt a W.heap.size) (hne : ∀ x y, a = some x → B = some y → x.block ≠ y.block) (e : B' = B ∨ B' = some ⟨W.heap.size, 0, none⟩) : ∀ x y, a = some x → B' = some y → x.block ≠ y.block := by
  intro x y hx hy
  rcases e with e | e
  · exact hne x y hx (e ▸ hy)
  · rw [e] at hy
    cases hy
    exact Nat.ne_of_lt (ha x hx)
theorem apart_symm {a B : Option Addr} (hne : ∀ x y, a = some x → B = some y → x.block ≠ y.block) : ∀ x y, B = some x → a = some y → x.block ≠ y.block := fun x y hx hy e => hne y x hy hx e.symm
theorem filter_snoc_yes {xs : List Int} {p : Int → Bool} {k : Nat} (h : k < xs.length) (hp : p (xs[k]?.getD 0) = true) : (xs.take (k + 1)).filter p = (xs.take k).filter p ++ [xs[k]?.getD 0] := filterR_yes p xs k 0 h hp
theorem filter_snoc_no {xs : List Int} {p : Int → Bool} {k : Nat} (h : k < xs.length) (hp : p (xs[k]?.getD 0) = false) : (xs.take (k + 1)).filter p = (xs.take k).filter p := filterR_no p xs k 0 h hp

end Go.Proofs.Ythlgagngeedgjaa
