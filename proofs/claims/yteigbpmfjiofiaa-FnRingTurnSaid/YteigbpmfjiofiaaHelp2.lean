/-
  What the laws' own helper sameInts computes.
-/
import Derived.Test.YteigbpmfjiofiaaHelp
namespace Go.Proofs.Yteigbpmfjiofiaa
open Go.RowKit

set_option maxHeartbeats 400000 in
theorem sameInts_same (a a' : Option Addr) (n n' cap cap' : Nat) (xs : List Int) (w : World) (h : Ints w a n cap xs) (h' : Ints w a' n' cap' xs) :
    Calls Try.prog 35 #[.slice a n cap, .slice a' n' cap'] w (RVal w (.bool true)) := by
  obtain rfl : n = n' := h.length.symm.trans h'.length
  have hm := h.cap_max
  have hle := h.le_cap
  have hle' := h'.le_cap
  go_enter Try.func35, Try.ntmps35
  go_wp2
  go_loopw [5] (fun i wr => ∃ k : Nat, k ≤ n ∧ i = .int .i64 k ∧ Below w.heap.size w wr) (fun i _ => n - (intOf i).toNat)
  case atStart => exact ⟨0, Nat.zero_le _, rfl, Below.refl _ _⟩
  case round =>
    obtain ⟨k, hk, rfl, hBr⟩ := hrel
    by_cases hlt : k < n
    · obtain ⟨b, off, rfl, hc⟩ := (h.below hBr).cells (by omega)
      obtain ⟨b', off', rfl, hc'⟩ := (h'.below hBr).cells (by omega)
      have hck := hc k hlt
      have hck' := hc' k hlt
      clear hc hc'
      go_wp2
      go_quiet (fail)
      go_wp2
      go_roundw
      case rel => exact ⟨k + 1, by omega, by go_num, below_drewN hBr _⟩
      case measure => simp [intOf]; omega
    · go_wp2
      go_ret
      exact ⟨rfl, hBr⟩

end Go.Proofs.Yteigbpmfjiofiaa
