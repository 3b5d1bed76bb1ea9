/-
  The walk through the exact law on RingLayers: it returns true.
-/
import Derived.Test.YteigbpmfjiofiaaLayR
import Derived.Test.YteigbpmfjiofiaaHelp
import Derived.Test.YteigbpmfjiofiaaMem3
import Derived.Test.YteigbpmfjiofiaaShell
namespace Go.Proofs.Yteigbpmfjiofiaa
open Go.RowKit

set_option linter.unusedVariables false in
set_option maxRecDepth 100000 in
set_option maxHeartbeats 2000000 in
theorem exact_RingLayers (w : World) (a0 : Option Addr) (n0 cap0 : Nat) (xs0 : List Int) (hx0 : Ints w a0 n0 cap0 xs0) (s1 : ByteArray) (hs1 : s1.size ≤ maxLen) (a2 : Option Addr) (n2 cap2 : Nat) (xs2 : List Int) (hx2 : Ints w a2 n2 cap2 xs2) (t : Bool)
    (hn0 : n0 ≤ 1048576) (hn1 : s1.size ≤ 1048576) (hn2 : n2 ≤ 1048576)
    (hspec : (∀ (W : World) (A0 : Option Addr) (c0 : Nat) (A2 : Option Addr) (c2 : Nat), Ints W A0 n0 c0 xs0 → Ints W A2 n2 c2 xs2 → Calls Try.prog 15 #[.slice A0 n0 c0, .string s1, .slice A2 n2 c2] W (RVal W (.bool t))))
    (himpl : (∀ (W : World) (A0 : Option Addr) (c0 : Nat) (A2 : Option Addr) (c2 : Nat), Ints W A0 n0 c0 xs0 → Ints W A2 n2 c2 xs2 → Calls Try.prog 17 #[.slice A0 n0 c0, .string s1, .slice A2 n2 c2] W (RVal W (.bool t)))) :
    Calls Try.prog 3 #[.slice a0 n0 cap0, .string s1, .slice a2 n2 cap2] w (RVal w (.bool true)) := by
  have hm0 := hx0.cap_max
  have hle0 := hx0.le_cap
  have hm2 := hx2.cap_max
  have hle2 := hx2.le_cap
  have HS := Lib.hid hspec
  have HI := Lib.hid himpl
  clear hspec himpl
  go_enter Try.func3, Try.ntmps3
  have B0 : Below w.heap.size w w := Below.refl _ _
  go_wp2_with fail
  refine (toIntS _ _ _ _ _ (hx0.below B0) hn0).mono ?_
  rintro e W1 ⟨A1, m1, d1, rfl, o1, b1⟩
  obtain rfl : n0 = m1 := hx0.length.symm.trans o1.length
  have B2 := Below.call B0 B0.size b1
  go_wp2_with fail
  refine (toIntS _ _ _ _ _ (hx2.below B2) hn2).mono ?_
  rintro e W3 ⟨A3, m3, d3, rfl, o3, b3⟩
  obtain rfl : n2 = m3 := hx2.length.symm.trans o3.length
  have B4 := Below.call B2 B2.size b3
  replace o1 := o1.below b3
  go_wp2_with fail
  refine (HS.out _ _ _ _ _ o1.ints o3.ints).mono ?_
  rintro e W5 ⟨rfl, b5⟩
  have B6 := Below.call B4 B4.size b5
  replace o1 := o1.below b5
  replace o3 := o3.below b5
  clear o1
  clear o3
  go_wp2_with fail
  refine (toIntS _ _ _ _ _ (hx0.below B6) hn0).mono ?_
  rintro e W7 ⟨A7, m7, d7, rfl, o7, b7⟩
  obtain rfl : n0 = m7 := hx0.length.symm.trans o7.length
  have B8 := Below.call B6 B6.size b7
  go_wp2_with fail
  refine (toIntS _ _ _ _ _ (hx2.below B8) hn2).mono ?_
  rintro e W9 ⟨A9, m9, d9, rfl, o9, b9⟩
  obtain rfl : n2 = m9 := hx2.length.symm.trans o9.length
  have B10 := Below.call B8 B8.size b9
  replace o7 := o7.below b9
  go_wp2_with fail
  refine (HI.out _ _ _ _ _ o7.ints o9.ints).mono ?_
  rintro e W11 ⟨rfl, b11⟩
  have B12 := Below.call B10 B10.size b11
  replace o7 := o7.below b11
  replace o9 := o9.below b11
  go_wp2_with fail
  refine (toIntS _ _ _ _ _ (hx0.below B12) hn0).mono ?_
  rintro e W13 ⟨A13, m13, d13, rfl, o13, b13⟩
  obtain rfl : n0 = m13 := hx0.length.symm.trans o13.length
  have B14 := Below.call B12 B12.size b13
  replace o7 := o7.below b13
  replace o9 := o9.below b13
  go_wp2_with fail
  refine (eqIntS_same _ _ _ _ _ _ _ _ o7.ints o13.ints).mono ?_
  rintro e W15 ⟨rfl, b15⟩
  have B16 := Below.call B14 B14.size b15
  replace o7 := o7.below b15
  replace o9 := o9.below b15
  replace o13 := o13.below b15
  clear o13
  go_wp2_with fail
  refine (toIntS _ _ _ _ _ (hx2.below B16) hn2).mono ?_
  rintro e W17 ⟨A17, m17, d17, rfl, o17, b17⟩
  obtain rfl : n2 = m17 := hx2.length.symm.trans o17.length
  have B18 := Below.call B16 B16.size b17
  replace o7 := o7.below b17
  replace o9 := o9.below b17
  go_wp2_with fail
  refine (eqIntS_same _ _ _ _ _ _ _ _ o9.ints o17.ints).mono ?_
  rintro e W19 ⟨rfl, b19⟩
  have B20 := Below.call B18 B18.size b19
  replace o7 := o7.below b19
  replace o9 := o9.below b19
  replace o17 := o17.below b19
  clear o17
  go_wp2_with fail
  go_ret
  exact ⟨rfl, B20⟩

theorem long_RingLayers (w : World) (a0 : Option Addr) (n0 cap0 : Nat) (xs0 : List Int) (hx0 : Ints w a0 n0 cap0 xs0) (s1 : ByteArray) (hs1 : s1.size ≤ maxLen) (a2 : Option Addr) (n2 cap2 : Nat) (xs2 : List Int) (hx2 : Ints w a2 n2 cap2 xs2) (hl : ¬ (n0 ≤ 1048576 ∧ s1.size ≤ 1048576 ∧ n2 ≤ 1048576)) :
    Calls Try.prog 3 #[.slice a0 n0 cap0, .string s1, .slice a2 n2 cap2] w (RVal w (.bool true)) := by
  have hm0 := hx0.cap_max
  have hle0 := hx0.le_cap
  have hm2 := hx2.cap_max
  have hle2 := hx2.le_cap
  unfold maxLen at hs1
  by_cases hc0 : n0 ≤ 1048576
  · skip
    by_cases hc1 : s1.size ≤ 1048576
    · skip
      have hc2 : ¬ n2 ≤ 1048576 := by omega
      clear hl
      go_enter Try.func3, Try.ntmps3
      go_wp2_with fail
      go_ret
      exact ⟨rfl, Below.refl _ _⟩
    · clear hl
      go_enter Try.func3, Try.ntmps3
      go_wp2_with fail
      go_ret
      exact ⟨rfl, Below.refl _ _⟩
  · clear hl
    go_enter Try.func3, Try.ntmps3
    go_wp2_with fail
    go_ret
    exact ⟨rfl, Below.refl _ _⟩


theorem law_FnExactRingLayers (w : World) (a : Option Addr) (n cap : Nat) (xs : List Int) (hx : Ints w a n cap xs) (s : ByteArray) (hs : s.size ≤ maxLen) (b : Option Addr) (m cb : Nat) (ys : List Int) (hy : Ints w b m cb ys) :
    Calls Try.prog 3 #[.slice a n cap, .string s, .slice b m cb] w (RVal w (.bool true)) := by
  by_cases h : n ≤ 1048576 ∧ s.size ≤ 1048576 ∧ m ≤ 1048576
  · exact exact_RingLayers w a n cap xs hx s hs b m cb ys hy (layR xs s ys) h.1 h.2.1 h.2.2 (fun W A c B d h1 h2 => spec_RingLayers A B n c m d xs ys s W h1 h.1 hs h2 h.2.2) (fun W A c B d h1 h2 => impl_RingLayers A B n c m d xs ys s W h1 hs h2 h.2.2)
  · exact long_RingLayers w a n cap xs hx s hs b m cb ys hy h
end Go.Proofs.Yteigbpmfjiofiaa
