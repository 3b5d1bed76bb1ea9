/-
  What StampPossible computes, in the reference and in the program, by a walk through each.
-/
import Derived.Test.YtahbflbhkalehaaLevels
import Derived.IntWalk
namespace Go.Proofs.Ytahbflbhkalehaa
open Go.RowKit

theorem quietA {P : Program} {f : FuncId} {args : Array Value} {w : World} {n : Nat} {v : Value} (h : ∀ W : World, Calls P f args W fun e w' => e = .returned v ∧ W = w') :
    Calls P f args (w.drewN n) fun e w'' => e = .returned v ∧ ∃ m, w'' = w.drewN m := (h _).mono fun _ _ ⟨he, hw⟩ => ⟨he, n, hw.symm⟩
theorem quietB {P : Program} {f : FuncId} {args : Array Value} {w : World} {a n : Nat} {v : Value} (h : ∀ W : World, Calls P f args W fun e w' => e = .returned v ∧ W = w') :
    Calls P f args (w.drewN (a + n)) fun e w'' => e = .returned v ∧ ∃ m, w'' = w.drewN (a + m) := (h _).mono fun _ _ ⟨he, hw⟩ => ⟨he, n, hw.symm⟩

/-- The pairs that begin ahead of k cross no later one. -/
def unTo (L : List Int) (k : Nat) : Prop := ∀ i m : Nat, i < k → i < m → m + 1 < L.length → i % 2 = m % 2 → crossB (L[i]?.getD 0) (L[i + 1]?.getD 0) (L[m]?.getD 0) (L[m + 1]?.getD 0) = false
/-- The pair k crosses none of its side that begins ahead of m. -/
def unIn (L : List Int) (k m : Nat) : Prop := ∀ j : Nat, j < m → k < j → j + 1 < L.length → k % 2 = j % 2 → crossB (L[k]?.getD 0) (L[k + 1]?.getD 0) (L[j]?.getD 0) (L[j + 1]?.getD 0) = false
theorem unTo_zero (L : List Int) : unTo L 0 := fun i _ h => absurd h (Nat.not_lt_zero i)
theorem unTo_succ {L : List Int} {k m : Nat} (h : unTo L k) (h1 : unIn L k m) (hm : ¬ m + 1 < L.length) : unTo L (k + 1) := fun i j hi hj hl hp => by
  by_cases e : i = k
  · subst e; exact h1 j (by omega) hj hl hp
  · exact h i j (by omega) hj hl hp
theorem unTo_all {L : List Int} {k : Nat} (h : unTo L k) (hk : ¬ k + 1 < L.length) : unB L = true := (unB_iff L).2 fun i m h1 h2 h3 => h i m (by omega) h1 h2 h3
theorem unIn_start (L : List Int) (k : Nat) : unIn L k (k + 2) := fun j hj hk hl hp => by omega
theorem unIn_step {L : List Int} {k m : Nat} (h : unIn L k m) (hm : m % 2 = k % 2) (h1 : crossB (L[k]?.getD 0) (L[k + 1]?.getD 0) (L[m]?.getD 0) (L[m + 1]?.getD 0) = false) : unIn L k (m + 2) := fun j hj hk hl hp => by
  by_cases e : j = m
  · subst e; exact h1
  · exact h j (by omega) hk hl hp

theorem possB_no {xs : List Int} (h : ¬ (1 ≤ xs.length ∧ xs.length ≤ 7)) : possB xs = false := by unfold possB; rw [decide_eq_false h]; rfl
theorem possB_yes {xs : List Int} (h : 1 ≤ xs.length ∧ xs.length ≤ 7) (hp : permB xs = true) : possB xs = unB (levelsL xs) := by unfold possB; rw [decide_eq_true h, hp]; rfl
theorem possB_np {xs : List Int} (hp : permB xs = false) : possB xs = false := by unfold possB; rw [hp]; simp

end Go.Proofs.Ytahbflbhkalehaa
