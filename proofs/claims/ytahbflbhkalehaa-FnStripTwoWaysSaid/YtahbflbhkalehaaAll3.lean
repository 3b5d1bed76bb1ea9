/-
  What l3All, StampMany, StampLow, l3Before, StampRank, StampNth and StampNext of the reference compute, by a walk through each.
-/
import Derived.Test.YtahbflbhkalehaaAll
import Derived.Test.YtahbflbhkalehaaStampU
namespace Go.Proofs.Ytahbflbhkalehaa
open Go.RowKit

theorem takeR_snoc {α : Type} (xs : List α) (k : Nat) (d : α) (h : k < xs.length) : xs.take (k + 1) = xs.take k ++ [xs[k]?.getD d] := by
  rw [List.take_succ_eq_append_getElem h, List.getElem?_eq_getElem h]; rfl
theorem getR_mem {α : Type} (xs : List α) (k : Nat) (d : α) (h : k < xs.length) : xs[k]?.getD d ∈ xs := by
  rw [List.getElem?_eq_getElem h]; exact List.getElem_mem h
theorem filterR_yes {α : Type} (p : α → Bool) (xs : List α) (k : Nat) (d : α) (h : k < xs.length) (hp : p (xs[k]?.getD d) = true) : (xs.take (k + 1)).filter p = (xs.take k).filter p ++ [xs[k]?.getD d] := by
  rw [takeR_snoc xs k d h, List.filter_append, List.filter_cons, if_pos hp]; rfl
theorem filterR_no {α : Type} (p : α → Bool) (xs : List α) (k : Nat) (d : α) (h : k < xs.length) (hp : p (xs[k]?.getD d) = false) : (xs.take (k + 1)).filter p = (xs.take k).filter p := by
  rw [takeR_snoc xs k d h, List.filter_append, List.filter_cons, if_neg (by rw [hp]; simp)]; simp
theorem perms_small {n : Nat} (hn : n ≤ 7) : (perms n).length ≤ 823543 := allL_small hn hn []
theorem stacks_small {n : Nat} (hn : n ≤ 7) : (stacks n).length ≤ 823543 := Nat.le_trans (List.length_filter_le _ _) (perms_small hn)

/-- What StampMany answers. -/
def manyI (x : Int) : Int := if 1 ≤ x ∧ x ≤ 7 then ((stacks x.toNat).length : Int) else -1
theorem manyI_yes {n : Nat} (h1 : 1 ≤ n) (h7 : n ≤ 7) : manyI (n : Int) = ((stacks n).length : Int) := by
  unfold manyI
  rw [if_pos (by omega)]
  simp
theorem manyI_no {x : Int} (h : ¬ (1 ≤ x ∧ x ≤ 7)) : manyI x = -1 := by unfold manyI; rw [if_neg h]

end Go.Proofs.Ytahbflbhkalehaa
