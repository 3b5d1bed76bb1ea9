/-
  What the reference's StampPossible computes, by a walk.
-/
import Derived.Test.YtahbflbhkalehaaStamp
import Derived.Deep.DeepCutAuto
namespace Go.Proofs.Ytahbflbhkalehaa
open Go.RowKit

/-- The pairs that begin ahead of k cross none ahead of them (the reference's words). -/
def unToS (L : List Int) (k : Nat) : Prop := ∀ i m : Nat, i < k → m < i → i + 1 < L.length → i % 2 = m % 2 → crossB (L[i]?.getD 0) (L[i + 1]?.getD 0) (L[m]?.getD 0) (L[m + 1]?.getD 0) = false
def unInS (L : List Int) (k m : Nat) : Prop := ∀ j : Nat, j < m → j < k → k % 2 = j % 2 → crossB (L[k]?.getD 0) (L[k + 1]?.getD 0) (L[j]?.getD 0) (L[j + 1]?.getD 0) = false
theorem unToS_zero (L : List Int) : unToS L 0 := fun i _ h => absurd h (Nat.not_lt_zero i)
theorem unToS_succ {L : List Int} {k m : Nat} (h : unToS L k) (h1 : unInS L k m) (hm : ¬ m < k) : unToS L (k + 1) := fun i j hi hj hl hp => by
  by_cases e : i = k
  · subst e; exact h1 j (by omega) hj hp
  · exact h i j (by omega) hj hl hp
theorem unToS_all {xs : List Int} {k : Nat} (hp : permB xs = true) (h : unToS (levelsL xs) k) (hk : ¬ k + 1 < xs.length) : unB (levelsL xs) = true := (unB_iff _).2 fun i m h1 h2 h3 => by
  rw [levelsL_length] at h2
  rw [← cross_levels hp h1 h2 h3]
  exact h m i (by omega) h1 (by rw [levelsL_length]; exact h2) h3.symm
theorem unInS_start (L : List Int) (k : Nat) : unInS L k (k % 2) := fun j hj hk hp => by omega
theorem unInS_step {L : List Int} {k m : Nat} (h : unInS L k m) (hm : m % 2 = k % 2) (h1 : crossB (L[k]?.getD 0) (L[k + 1]?.getD 0) (L[m]?.getD 0) (L[m + 1]?.getD 0) = false) : unInS L k (m + 2) := fun j hj hk hp => by
  by_cases e : j = m
  · subst e; exact h1
  · exact h j (by omega) hk hp
theorem unS_false {xs : List Int} {k m : Nat} (hp : permB xs = true) (h1 : m < k) (h2 : k + 1 < xs.length) (h3 : k % 2 = m % 2) (h : crossB ((levelsL xs)[k]?.getD 0) ((levelsL xs)[k + 1]?.getD 0) ((levelsL xs)[m]?.getD 0) ((levelsL xs)[m + 1]?.getD 0) = true) : unB (levelsL xs) = false := by
  rw [cross_levels hp h1 h2 h3.symm] at h
  exact unB_false h1 (by rw [levelsL_length]; exact h2) h3.symm h
theorem betw_lt (l : Int) {x y : Int} (h : x < y) : betw l x y = (decide (x < l) && decide (l < y)) := by
  unfold betw
  rw [Int.min_eq_left (by omega), Int.max_eq_right (by omega)]
  simp
theorem betw_gt (l : Int) {x y : Int} (h : y < x) : betw l x y = (decide (y < l) && decide (l < x)) := by
  unfold betw
  rw [Int.min_eq_right (by omega), Int.max_eq_left (by omega)]
  simp

end Go.Proofs.Ytahbflbhkalehaa
