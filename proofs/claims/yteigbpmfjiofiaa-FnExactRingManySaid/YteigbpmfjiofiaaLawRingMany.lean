/-
  The walk through the exact law on RingMany: it returns true.
-/
import Derived.Test.YteigbpmfjiofiaaManyR
import Derived.Test.YteigbpmfjiofiaaHelp
import Derived.Test.YteigbpmfjiofiaaMem3
import Derived.Test.YteigbpmfjiofiaaShell
namespace Go.Proofs.Yteigbpmfjiofiaa
open Go.RowKit

set_option linter.unusedVariables false in
set_option maxRecDepth 100000 in
set_option maxHeartbeats 2000000 in
theorem exact_RingMany (w : World) (a0 : Option Addr) (n0 cap0 : Nat) (xs0 : List Int) (hx0 : Ints w a0 n0 cap0 xs0) (s1 : ByteArray) (hs1 : s1.size ≤ maxLen) (z : Int)
    (hn0 : n0 ≤ 1048576) (hn1 : s1.size ≤ 1048576)
    (hspec : (∀ (W : World) (A0 : Option Addr) (c0 : Nat), Ints W A0 n0 c0 xs0 → Calls Try.prog 21 #[.slice A0 n0 c0, .string s1] W (RVal W (.int .i64 z))))
    (himpl : (∀ (W : World) (A0 : Option Addr) (c0 : Nat), Ints W A0 n0 c0 xs0 → Calls Try.prog 22 #[.slice A0 n0 c0, .string s1] W (RVal W (.int .i64 z)))) :
    Calls Try.prog 5 #[.slice a0 n0 cap0, .string s1] w (RVal w (.bool true)) := by
  have hm0 := hx0.cap_max
  have hle0 := hx0.le_cap
  have HS := Lib.hid hspec
  have HI := Lib.hid himpl
  clear hspec himpl
  go_enter Try.func5, Try.ntmps5
  have B0 : Below w.heap.size w w := Below.refl _ _
  go_wp2_with fail
  refine (toIntS _ _ _ _ _ (hx0.below B0) hn0).mono ?_
  rintro e W1 ⟨A1, m1, d1, rfl, o1, b1⟩
  obtain rfl : n0 = m1 := hx0.length.symm.trans o1.length
  have B2 := Below.call B0 B0.size b1
  go_wp2_with fail
  refine (HS.out _ _ _ o1.ints).mono ?_
  rintro e W3 ⟨rfl, b3⟩
  have B4 := Below.call B2 B2.size b3
  replace o1 := o1.below b3
  clear o1
  go_wp2_with fail
  refine (toIntS _ _ _ _ _ (hx0.below B4) hn0).mono ?_
  rintro e W5 ⟨A5, m5, d5, rfl, o5, b5⟩
  obtain rfl : n0 = m5 := hx0.length.symm.trans o5.length
  have B6 := Below.call B4 B4.size b5
  go_wp2_with fail
  refine (HI.out _ _ _ o5.ints).mono ?_
  rintro e W7 ⟨rfl, b7⟩
  have B8 := Below.call B6 B6.size b7
  replace o5 := o5.below b7
  go_wp2_with fail
  refine (toIntS _ _ _ _ _ (hx0.below B8) hn0).mono ?_
  rintro e W9 ⟨A9, m9, d9, rfl, o9, b9⟩
  obtain rfl : n0 = m9 := hx0.length.symm.trans o9.length
  have B10 := Below.call B8 B8.size b9
  replace o5 := o5.below b9
  go_wp2_with fail
  refine (eqIntS_same _ _ _ _ _ _ _ _ o5.ints o9.ints).mono ?_
  rintro e W11 ⟨rfl, b11⟩
  have B12 := Below.call B10 B10.size b11
  replace o5 := o5.below b11
  replace o9 := o9.below b11
  clear o9
  go_wp2_with fail
  go_ret
  exact ⟨rfl, B12⟩

theorem long_RingMany (w : World) (a0 : Option Addr) (n0 cap0 : Nat) (xs0 : List Int) (hx0 : Ints w a0 n0 cap0 xs0) (s1 : ByteArray) (hs1 : s1.size ≤ maxLen) (hl : ¬ (n0 ≤ 1048576 ∧ s1.size ≤ 1048576)) :
    Calls Try.prog 5 #[.slice a0 n0 cap0, .string s1] w (RVal w (.bool true)) := by
  have hm0 := hx0.cap_max
  have hle0 := hx0.le_cap
  unfold maxLen at hs1
  by_cases hc0 : n0 ≤ 1048576
  · skip
    have hc1 : ¬ s1.size ≤ 1048576 := by omega
    clear hl
    go_enter Try.func5, Try.ntmps5
    go_wp2_with fail
    go_ret
    exact ⟨rfl, Below.refl _ _⟩
  · clear hl
    go_enter Try.func5, Try.ntmps5
    go_wp2_with fail
    go_ret
    exact ⟨rfl, Below.refl _ _⟩


theorem law_FnExactRingMany (w : World) (a : Option Addr) (n cap : Nat) (xs : List Int) (hx : Ints w a n cap xs) (s : ByteArray) (hs : s.size ≤ maxLen) :
    Calls Try.prog 5 #[.slice a n cap, .string s] w (RVal w (.bool true)) := by
  by_cases h : n ≤ 1048576 ∧ s.size ≤ 1048576
  · exact exact_RingMany w a n cap xs hx s hs (manR xs s) h.1 h.2 (fun W A c h1 => spec_RingMany A n c xs s W h1 h.1 hs) (fun W A c h1 => impl_RingMany A n c xs s W h1 hs)
  · exact long_RingMany w a n cap xs hx s hs h
end Go.Proofs.Yteigbpmfjiofiaa
