/-
  What AnglesBack computes, in the reference and in the program, by a walk through each.
-/
import Derived.Test.YtahbflbhkalehaaTurn
namespace Go.Proofs.Ytahbflbhkalehaa
open Go.RowKit

theorem rev_take (xs : List Int) (j n : Nat) (h : xs.length = n) (hj : j < n) : xs.reverse.take (j + 1) = xs.reverse.take j ++ [xs[n - 1 - j]?.getD 0] := by
  rw [take_snocI _ j (by simp; omega), List.getElem?_reverse (by omega), h]

theorem rev_set (xs : List Int) (k n : Nat) (h : xs.length = n) (hk : k < n) :
    (List.replicate (n - k) 0 ++ (xs.take k).reverse).set (n - 1 - k) (xs[k]?.getD 0) = List.replicate (n - (k + 1)) 0 ++ (xs.take (k + 1)).reverse := by
  rw [take_snocI xs k (by omega), List.reverse_append, List.reverse_singleton, List.singleton_append]
  apply List.ext_getElem?
  intro j
  rw [List.getElem?_set]
  simp only [List.getElem?_append, List.length_append, List.length_replicate, List.length_reverse, List.length_take, List.getElem?_replicate]
  by_cases hj : n - 1 - k = j
  · subst hj
    rw [if_pos rfl, if_pos (by omega), if_neg (by omega), show n - 1 - k - (n - (k + 1)) = 0 by omega]
    rfl
  · rw [if_neg hj]
    by_cases h1 : j < n - k
    · rw [if_pos h1, if_pos h1, if_pos (by omega), if_pos (by omega)]
    · rw [if_neg h1, if_neg (by omega), show j - (n - (k + 1)) = (j - (n - k)) + 1 by omega, List.getElem?_cons_succ]

end Go.Proofs.Ytahbflbhkalehaa
