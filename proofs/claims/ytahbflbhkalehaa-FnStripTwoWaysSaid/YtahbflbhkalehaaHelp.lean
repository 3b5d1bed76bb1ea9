/-
  What the laws' own helpers compute: toIntS, eqIntS, markIntS, heldIntS.
-/
import Derived.Test.YtahbflbhkalehaaChecked
import Derived.Test.YtahbflbhkalehaaPlain
import Derived.Test.YtahbflbhkalehaaMem
import Derived.WalkLawsBesides
import Derived.Outline
import Derived.Deep.QuietTactic
import Derived.BigQuiet
namespace Go.Proofs.Ytahbflbhkalehaa
open Go.RowKit

theorem tyInts : ElemTy Try.prog 23 3 1 8 (.int .i64 0) :=
  ⟨Try.underlying23, info_parts (by kernel_rfl), rfl, by omega⟩

theorem set_take_drop (xs : List Int) (k n : Nat) (h : xs.length = n) (hk : k < n) :
    (xs.take k ++ List.replicate (n - k) 0).set k (xs[k]?.getD 0) = xs.take (k + 1) ++ List.replicate (n - (k + 1)) 0 := by
  apply List.ext_getElem?
  intro j
  grind

/-- What markIntS lays. -/
def marks (n : Nat) : List Int := (List.range n).map fun i : Nat => (1 + i : Int)
theorem marks_length (n : Nat) : (marks n).length = n := by simp [marks]
theorem marks_get (n k : Nat) (h : k < n) : (marks n)[k]?.getD 0 = 1 + (k : Int) := by simp [marks, h]
theorem marks_set (xs : List Int) (k n : Nat) (h : xs.length = n) (hk : k < n) :
    (marks k ++ xs.drop k).set k (1 + (k : Int)) = marks (k + 1) ++ xs.drop (k + 1) := by
  apply List.ext_getElem?
  intro j
  have := marks_length k
  have := marks_length (k + 1)
  unfold marks at *
  grind

end Go.Proofs.Ytahbflbhkalehaa
