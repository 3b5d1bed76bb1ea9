/-
  The walk through the law on StampLow: it returns true.
-/
import Derived.Test.YtgabegdoofolnaaDraw3
import Derived.Test.YtgabegdoofolnaaSLow
namespace Go.Proofs.Ytgabegdoofolnaa
open Go.RowKit

/-- Two numbers. -/
def RTwo (w : World) (e : Ending) (w' : World) : Prop := ∃ x y : Int, e = .returned (.tuple #[.int .i64 x, .int .i64 y]) ∧ (-1 ≤ x ∧ x ≤ 8) ∧ (-10 ≤ y ∧ y ≤ 10) ∧ Below w.heap.size w w'

theorem spec_DrawStampLow (a : Option Addr) (n cap : Nat) (bs : List Int) (w : World) (h : Bytes w a n cap bs) :
    Calls Try.prog 42 #[.slice a n cap] w (RTwo w) := by
  have H1 := Lib.hid (spec_l6Open a n cap bs w h)
  go_enter Try.func42, Try.ntmps42
  go_wp2_with fail
  refine H1.out.mono ?_
  rintro e w1 ⟨rfl, r1, b1⟩
  go_wp2_with fail
  refine (spec_l91Number w.heap.size 0 w1 r1 (by omega)).mono ?_
  rintro e w2 ⟨x, rfl, hx, ⟨p2, hp2, r2⟩, g2⟩
  go_wp2_with fail
  refine (spec_pick w.heap.size p2 7 w2 r2 (by omega) (by omega) (by omega)).mono ?_
  rintro e w3 ⟨y, rfl, ⟨hy0, hy1⟩, r3, g3⟩
  go_wp2_with fail
  refine (spec_pick w.heap.size (p2 + 1) 12 w3 r3 (by omega) (by omega) (by omega)).mono ?_
  rintro e w4 ⟨z, rfl, ⟨hz0, hz1⟩, r4, g4⟩
  go_wp2_with fail
  go_ret2
  exact ⟨_, _, rfl, hx, by omega, below_grown b1 b1.size (grown_trans (grown_trans g2 g3) g4) (Nat.le_refl _)⟩

set_option maxRecDepth 100000 in
set_option maxHeartbeats 2000000 in
theorem law_FnStampLow (w : World) (a : Option Addr) (n cap : Nat) (bs : List Int) (hx : Bytes w a n cap bs) :
    Calls Try.prog 14 #[.slice a n cap] w (RVal w (.bool true)) := by
  have hle := hx.1.le
  have hmx := hx.1.max
  unfold maxLen at hmx
  by_cases hn : n ≤ 1048576
  · have H1 := Lib.hid (spec_DrawStampLow a n cap bs w hx)
    go_enter Try.func14, Try.ntmps14
    go_wp2_with fail
    refine H1.out.mono ?_
    rintro e w1 ⟨x, k, rfl, hx1, hk1, b1⟩
    by_cases h : (1 ≤ x ∧ x ≤ 7) ∧ 0 ≤ k ∧ k < x
    · obtain ⟨m, rfl⟩ := Int.eq_ofNat_of_zero_le (show 0 ≤ x by omega)
      have P1 := impl_StampLow (m : Int) k
      have P2 := spec_StampLow (m : Int) k
      have P3 := impl_StampMany (m : Int)
      rw [lowI_yes (by omega) (by omega) h.2.1 h.2.2] at P1 P2
      rw [manyI_yes (by omega) (by omega)] at P3
      obtain ⟨q1, q2⟩ := lowN_many (n := m) (by omega) (by omega) h.2
      have hsm := stacks_small (n := m) (by omega)
      have hll : lowN m k ≤ 823543 := by
        refine Nat.le_trans ?_ hsm
        rw [← q1]
        exact Nat.le_mul_of_pos_right _ (by omega)
      have hq : (lowN m k : Int) * (m : Int) = ((stacks m).length : Int) := by rw [← q1]; simp
      have P1 := Lib.hid P1
      have P2 := Lib.hid P2
      have P3 := Lib.hid P3
      clear q1 h
      generalize (stacks m).length = S at P3 hsm hq
      generalize lowN m k = Lw at P1 P2 q2 hll hq
      have hw1 : IntKind.i64.wrap ((Lw : Int) * (m : Int)) = (S : Int) := by rw [hq]; exact IntWalk.i64_in _ (by omega)
      have hL0 : (1 : Int) ≤ Lw := by omega
      have HQ := Lib.hid hq
      clear hq
      go_wp2_with fail
      refine (P1.out w1).mono ?_
      rintro e w2 ⟨rfl, b2⟩
      go_wp2_with fail
      refine (P2.out w2).mono ?_
      rintro e w3 ⟨rfl, b3⟩
      go_wp2_with fail
      refine (P3.out w3).mono ?_
      rintro e w4 ⟨rfl, b4⟩
      have B2 := Below.call b1 b1.size b2
      have B3 := Below.call B2 B2.size b3
      have B4 := Below.call B3 B3.size b4
      have hbq : ((Lw : Int) * (m : Int) == (S : Int)) = true := by rw [beq_iff_eq]; exact HQ.out
      go_wp2_with fail
      go_ret
      exact ⟨by first | rfl | (simp [HQ.out]), B4⟩
    · have P1 := impl_StampLow x k
      have P2 := spec_StampLow x k
      rw [lowI_no h] at P1 P2
      have P1 := Lib.hid P1
      have P2 := Lib.hid P2
      clear h
      go_wp2_with fail
      refine (P1.out w1).mono ?_
      rintro e w2 ⟨rfl, b2⟩
      go_wp2_with fail
      refine (P2.out w2).mono ?_
      rintro e w3 ⟨rfl, b3⟩
      go_wp2_with fail
      go_ret
      have B2 := Below.call b1 b1.size b2
      exact ⟨rfl, Below.call B2 B2.size b3⟩
  · go_enter Try.func14, Try.ntmps14
    go_wp2_with fail
    go_ret
    exact ⟨rfl, Below.refl _ _⟩

end Go.Proofs.Ytgabegdoofolnaa
