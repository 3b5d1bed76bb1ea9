/-
  Plain facts on the folds of a stack. No program in sight.
-/
import Derived.Test.YtcdgnbhmijeeiaaPlainR
import Derived.Test.YtcdgnbhmijeeiaaPlainF
namespace Go.Proofs.Ytcdgnbhmijeeiaa
open Go.RowKit

/-- The fold between the stamps k and k + 1, by their levels. -/
def sfB (L : List Int) (k : Nat) : UInt8 := if decide (L[k]?.getD 0 < L[k + 1]?.getD 0) = decide (k % 2 = 0) then 86 else 77
/-- The first k folds. -/
def sfTo (L : List Int) (k : Nat) : ByteArray := ⟨((List.range k).map (sfB L)).toArray⟩
/-- What StampFolds answers. -/
def stampFolds (xs : List Int) : ByteArray := sfTo (levelsL xs) (xs.length - 1)
theorem sfTo_zero (L : List Int) : sfTo L 0 = ⟨#[]⟩ := rfl
theorem sfTo_succ (L : List Int) (k : Nat) : sfTo L (k + 1) = sfTo L k ++ ⟨#[sfB L k]⟩ := by
  unfold sfTo
  rw [List.range_succ, List.map_append]
  apply ByteArray.ext
  rw [ByteArray.data_append]
  simp
theorem sfTo_size (L : List Int) (k : Nat) : (sfTo L k).size = k := by
  have h1 : (sfTo L k).size = ((List.range k).map (sfB L)).length := rfl
  rw [h1, List.length_map, List.length_range]
/-- The folds as numbers, the first k laid. -/
def sfNums (L : List Int) (n k : Nat) : List Int := ((List.range k).map fun i => ((sfB L i).toNat : Int)) ++ List.replicate (n - k) 0
theorem sfNums_length (L : List Int) (n k : Nat) (h : k ≤ n) : (sfNums L n k).length = n := by simp [sfNums]; omega
theorem sfNums_zero (L : List Int) (n : Nat) : sfNums L n 0 = List.replicate n 0 := by simp [sfNums]
theorem sfNums_set (L : List Int) (n k : Nat) (h : k < n) : (sfNums L n k).set k ((sfB L k).toNat : Int) = sfNums L n (k + 1) := by
  unfold sfNums
  rw [List.range_succ, List.map_append, List.set_append_right _ _ (by simp)]
  rw [List.length_map, List.length_range, Nat.sub_self, show n - k = (n - (k + 1)) + 1 by omega, List.replicate_succ, List.set_cons_zero]
  simp
theorem sfNums_set2 (L : List Int) (n k : Nat) (x : Int) (h : k < n) : ((sfNums L n k).set k x).set k ((sfB L k).toNat : Int) = sfNums L n (k + 1) := by
  rw [List.set_set, sfNums_set L n k h]
theorem sfNums_all (L : List Int) (n k : Nat) (h : n ≤ k) (hk : k ≤ n) : (⟨((sfNums L n k).map fun n => UInt8.ofNat n.toNat).toArray⟩ : ByteArray) = sfTo L n := by
  have : k = n := by omega
  subst this
  unfold sfNums sfTo
  rw [Nat.sub_self]
  simp
theorem sfB_V {L : List Int} {k : Nat} (h : decide (L[k]?.getD 0 < L[k + 1]?.getD 0) = decide (k % 2 = 0)) : sfB L k = 86 := by unfold sfB; rw [if_pos h]
theorem sfB_M {L : List Int} {k : Nat} (h : ¬ decide (L[k]?.getD 0 < L[k + 1]?.getD 0) = decide (k % 2 = 0)) : sfB L k = 77 := by unfold sfB; rw [if_neg h]

end Go.Proofs.Ytcdgnbhmijeeiaa
