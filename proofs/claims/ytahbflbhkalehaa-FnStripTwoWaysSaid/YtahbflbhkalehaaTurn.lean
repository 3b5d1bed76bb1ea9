/-
  What AnglesCloses, AnglesTurn and AnglesBack compute, in the reference and in the program, by a walk through each.
-/
import Derived.Test.YtahbflbhkalehaaAngles
import Derived.Test.YtahbflbhkalehaaMem2
import Derived.WalkSpells
namespace Go.Proofs.Ytahbflbhkalehaa
open Go.RowKit

/-- What AnglesCloses answers. -/
def closesB (xs : List Int) : Bool := anglesB xs && (alt xs == 0)
theorem anglesB_in {xs : List Int} (h : anglesB xs = true) : allIn 1 1000 xs := fun x hx => by
  have := (anglesB_iff xs).1 h
  have := this.2.2.2.1 x hx
  omega
theorem anglesB_len {xs : List Int} (h : anglesB xs = true) : 2 ≤ xs.length ∧ xs.length ≤ 10 ∧ xs.length % 2 = 0 := by
  have := (anglesB_iff xs).1 h
  exact ⟨this.1, this.2.1, this.2.2.1⟩

end Go.Proofs.Ytahbflbhkalehaa
