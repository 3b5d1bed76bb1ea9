/-
  What the reference's l2Steps computes, by a walk.
-/
import Derived.Test.YtahbflbhkalehaaPlainT
import Derived.Test.YtahbflbhkalehaaStrip
import Derived.Test.YtahbflbhkalehaaMem3
import Derived.StillTailTactics
import Derived.IntWalk
import Derived.Deep.DeepCutAuto
import Derived.Deep.LoopGhost
namespace Go.Proofs.Ytahbflbhkalehaa
open Go.RowKit

def FirstAns (n : Nat) (xs : List Int) (s : ByteArray) (w : World) (v : Value) (wx : World) : Prop :=
  ∃ b : Bool, v = .bool b ∧ (b = true → stepsB n xs s = true) ∧ (b = false → ¬ (at0 xs 0 ≤ at0 xs 1 ∧ stepsB (n - 1) (xs.drop 1) (s.extract 1 s.size) = true)) ∧ Below w.heap.size w wx

theorem Ints.none' (w : World) (a : Option Addr) {n cap : Nat} (hn : n = 0) (h : cap ≤ maxLen) : Ints w a n cap [] := by subst hn; exact Ints.empty w a h
theorem crimpB_eq {xs : List Int} {s : ByteArray} {K : Nat} (hs : K < s.size) (h : s[K - 1]'(by omega) = s[K]) : crimpB xs s K = false := by
  unfold crimpB
  rw [bAt_get s K hs, bAt_get s (K - 1) (by omega), h, bne_self_eq_false]
  rfl
theorem crimpB_yes {xs : List Int} {s : ByteArray} {K : Nat} (hs : K < s.size) (h : ¬ s[K - 1]'(by omega) = s[K]) (h2 : at0 xs K ≤ at0 xs (K - 1)) (h3 : at0 xs K ≤ at0 xs (K + 1)) : crimpB xs s K = true := by
  unfold crimpB
  rw [bAt_get s K hs, bAt_get s (K - 1) (by omega), bne_iff_ne.2 h, decide_eq_true h2, decide_eq_true h3]
  rfl
theorem crimpB_no {xs : List Int} {s : ByteArray} {K : Nat} (h : ¬ (at0 xs K ≤ at0 xs (K - 1) ∧ at0 xs K ≤ at0 xs (K + 1))) : crimpB xs s K = false := by
  unfold crimpB
  rw [Bool.and_eq_false_iff]
  right
  rw [Bool.and_eq_false_iff]
  by_cases q : at0 xs K ≤ at0 xs (K - 1)
  · right; exact decide_eq_false fun q2 => h ⟨q, q2⟩
  · left; exact decide_eq_false q
def LastAns (n : Nat) (xs : List Int) (s : ByteArray) (w : World) (v : Value) (wx : World) : Prop :=
  ∃ b : Bool, v = .bool b ∧ (b = true → stepsB n xs s = true) ∧ (b = false → ¬ (at0 xs (n - 1) ≤ at0 xs (n - 2) ∧ stepsB (n - 1) (xs.take (n - 1)) (s.extract 0 (n - 2)) = true)) ∧ Below w.heap.size w wx
def CrimpAns (xs : List Int) (s : ByteArray) (K : Nat) (w : World) (v : Value) (wx : World) : Prop :=
  ∃ b : Bool, v = .bool (!b) ∧ crimpB xs s K = b ∧ Below w.heap.size w wx

end Go.Proofs.Ytahbflbhkalehaa
