/-
  The walk through the exact law on StampRank: it returns true.
-/
import Derived.Test.YtgabegdoofolnaaSRank
import Derived.Test.YtgabegdoofolnaaHelp
import Derived.Test.YtgabegdoofolnaaMem3
import Derived.Test.YtgabegdoofolnaaShell
namespace Go.Proofs.Ytgabegdoofolnaa
open Go.RowKit

set_option linter.unusedVariables false in
set_option maxRecDepth 100000 in
set_option maxHeartbeats 2000000 in
theorem exact_StampRank (w : World) (a0 : Option Addr) (n0 cap0 : Nat) (xs0 : List Int) (hx0 : Ints w a0 n0 cap0 xs0) (z : Int)
    (hn0 : n0 ≤ 1048576)
    (hspec : (∀ (W : World) (A0 : Option Addr) (c0 : Nat), Ints W A0 n0 c0 xs0 → Calls Try.prog 31 #[.slice A0 n0 c0] W (RVal W (.int .i64 z))))
    (himpl : (∀ (W : World) (A0 : Option Addr) (c0 : Nat), Ints W A0 n0 c0 xs0 → Calls Try.prog 32 #[.slice A0 n0 c0] W (RVal W (.int .i64 z)))) :
    Calls Try.prog 9 #[.slice a0 n0 cap0] w (RVal w (.bool true)) := by
  have hm0 := hx0.cap_max
  have hle0 := hx0.le_cap
  have HS := Lib.hid hspec
  have HI := Lib.hid himpl
  clear hspec himpl
  go_enter Try.func9, Try.ntmps9
  have B0 : Below w.heap.size w w := Below.refl _ _
  go_wp2_with fail
  refine (toIntS _ _ _ _ _ (hx0.below B0) hn0).mono ?_
  rintro e W1 ⟨A1, m1, d1, rfl, o1, b1⟩
  obtain rfl : n0 = m1 := hx0.length.symm.trans o1.length
  have B2 := Below.call B0 B0.size b1
  go_wp2_with fail
  refine (HS.out _ _ _ o1.ints).mono ?_
  rintro e W3 ⟨rfl, b3⟩
  have B4 := Below.call B2 B2.size b3
  replace o1 := o1.below b3
  clear o1
  go_wp2_with fail
  refine (toIntS _ _ _ _ _ (hx0.below B4) hn0).mono ?_
  rintro e W5 ⟨A5, m5, d5, rfl, o5, b5⟩
  obtain rfl : n0 = m5 := hx0.length.symm.trans o5.length
  have B6 := Below.call B4 B4.size b5
  go_wp2_with fail
  refine (HI.out _ _ _ o5.ints).mono ?_
  rintro e W7 ⟨rfl, b7⟩
  have B8 := Below.call B6 B6.size b7
  replace o5 := o5.below b7
  go_wp2_with fail
  refine (toIntS _ _ _ _ _ (hx0.below B8) hn0).mono ?_
  rintro e W9 ⟨A9, m9, d9, rfl, o9, b9⟩
  obtain rfl : n0 = m9 := hx0.length.symm.trans o9.length
  have B10 := Below.call B8 B8.size b9
  replace o5 := o5.below b9
  go_wp2_with fail
  refine (eqIntS_same _ _ _ _ _ _ _ _ o5.ints o9.ints).mono ?_
  rintro e W11 ⟨rfl, b11⟩
  have B12 := Below.call B10 B10.size b11
  replace o5 := o5.below b11
  replace o9 := o9.below b11
  clear o9
  go_wp2_with fail
  go_ret
  exact ⟨rfl, B12⟩

theorem long_StampRank (w : World) (a0 : Option Addr) (n0 cap0 : Nat) (xs0 : List Int) (hx0 : Ints w a0 n0 cap0 xs0) (hl : ¬ (n0 ≤ 1048576)) :
    Calls Try.prog 9 #[.slice a0 n0 cap0] w (RVal w (.bool true)) := by
  have hm0 := hx0.cap_max
  have hle0 := hx0.le_cap
  have hc0 : ¬ n0 ≤ 1048576 := by omega
  clear hl
  go_enter Try.func9, Try.ntmps9
  go_wp2_with fail
  go_ret
  exact ⟨rfl, Below.refl _ _⟩


theorem law_FnExactStampRank (w : World) (a : Option Addr) (n cap : Nat) (xs : List Int) (hx : Ints w a n cap xs) :
    Calls Try.prog 9 #[.slice a n cap] w (RVal w (.bool true)) := by
  by_cases h : n ≤ 1048576
  · cases hv : possB xs with
    | true =>
      have hl := possB_len hv
      rw [hx.length] at hl
      obtain ⟨N, rfl⟩ : ∃ N, n = N + 1 := ⟨n - 1, by omega⟩
      exact exact_StampRank w a (N + 1) cap xs hx (rankN xs : Int) h (fun W A c hi => by have := spec_StampRank A (N + 1) c xs W hi h; rwa [hv, if_pos rfl] at this) (fun W A c hi => impl_StampRank_yes A N c xs W hi hv)
    | false => exact exact_StampRank w a n cap xs hx (-1) h (fun W A c hi => by have := spec_StampRank A n c xs W hi h; rwa [hv, if_neg (by simp)] at this) (fun W A c hi => impl_StampRank_no A n c xs W hi hv)
  · exact long_StampRank w a n cap xs hx h
end Go.Proofs.Ytgabegdoofolnaa
