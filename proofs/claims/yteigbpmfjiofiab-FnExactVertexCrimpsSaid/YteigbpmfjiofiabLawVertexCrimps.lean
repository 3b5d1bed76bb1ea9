/-
  The walk through the exact law on VertexCrimps: it returns true.
-/
import Derived.Test.YteigbpmfjiofiabLink4
import Derived.Test.YteigbpmfjiofiabHelp
import Derived.Test.YteigbpmfjiofiabMem3
import Derived.Test.YteigbpmfjiofiabShell
namespace Go.Proofs.Yteigbpmfjiofiab
open Go.RowKit

set_option linter.unusedVariables false in
set_option maxRecDepth 100000 in
set_option maxHeartbeats 2000000 in
theorem exact_VertexCrimps (w : World) (a0 : Option Addr) (n0 cap0 : Nat) (xs0 : List Int) (hx0 : Ints w a0 n0 cap0 xs0) (s1 : ByteArray) (hs1 : s1.size ≤ maxLen) (ys : List Int) (hys : ys.length ≤ 2000000)
    (hn0 : n0 ≤ 1048576) (hn1 : s1.size ≤ 1048576)
    (hspec : (∀ (W : World) (A0 : Option Addr) (c0 : Nat), Ints W A0 n0 c0 xs0 → Calls Try.prog 23 #[.slice A0 n0 c0, .string s1] W (RInts W ys)))
    (himpl : (∀ (W : World) (A0 : Option Addr) (c0 : Nat), Ints W A0 n0 c0 xs0 → Calls Try.prog 25 #[.slice A0 n0 c0, .string s1] W (RInts W ys))) :
    Calls Try.prog 6 #[.slice a0 n0 cap0, .string s1] w (RVal w (.bool true)) := by
  have hm0 := hx0.cap_max
  have hle0 := hx0.le_cap
  have HS := Lib.hid hspec
  have HI := Lib.hid himpl
  clear hspec himpl
  go_enter Try.func6, Try.ntmps6
  have B0 : Below w.heap.size w w := Below.refl _ _
  go_wp2_with fail
  refine (toIntS _ _ _ _ _ (hx0.below B0) hn0).mono ?_
  rintro e W1 ⟨A1, m1, d1, rfl, o1, b1⟩
  obtain rfl : n0 = m1 := hx0.length.symm.trans o1.length
  have lt1 := o1.lt
  have ge1 := o1.ge
  have gw1 := ge1.mono B0.size
  have B2 := Below.call B0 B0.size b1
  go_wp2_with fail
  refine (HS.out _ _ _ o1.ints).mono ?_
  rintro e W3 ⟨A3, m3, d3, rfl, o3, b3⟩
  have l3 : m3 ≤ 2000000 := by rw [← o3.length]; exact hys
  have lt3 := o3.lt
  have ge3 := o3.ge
  have gw3 := ge3.mono B2.size
  have B4 := Below.call B2 B2.size b3
  replace o1 := o1.below b3
  clear o1
  go_wp2_with fail
  refine (toIntS _ _ _ _ _ (hx0.below B4) hn0).mono ?_
  rintro e W5 ⟨A5, m5, d5, rfl, o5, b5⟩
  obtain rfl : n0 = m5 := hx0.length.symm.trans o5.length
  have lt5 := o5.lt
  have ge5 := o5.ge
  have gw5 := ge5.mono B4.size
  have B6 := Below.call B4 B4.size b5
  replace o3 := o3.below b5
  go_wp2_with fail
  refine (HI.out _ _ _ o5.ints).mono ?_
  rintro e W7 ⟨A7, m7, d7, rfl, o7, b7⟩
  have l7 : m7 ≤ 2000000 := by rw [← o7.length]; exact hys
  have lt7 := o7.lt
  have ge7 := o7.ge
  have gw7 := ge7.mono B6.size
  have B8 := Below.call B6 B6.size b7
  replace o3 := o3.below b7
  replace o5 := o5.below b7
  go_wp2_with fail
  refine (eqIntS_same _ _ _ _ _ _ _ _ o7.ints o3.ints).mono ?_
  rintro e W9 ⟨rfl, b9⟩
  have B10 := Below.call B8 B8.size b9
  replace o3 := o3.below b9
  replace o5 := o5.below b9
  replace o7 := o7.below b9
  go_wp2_with fail
  refine (toIntS _ _ _ _ _ (hx0.below B10) hn0).mono ?_
  rintro e W11 ⟨A11, m11, d11, rfl, o11, b11⟩
  obtain rfl : n0 = m11 := hx0.length.symm.trans o11.length
  have lt11 := o11.lt
  have ge11 := o11.ge
  have gw11 := ge11.mono B10.size
  have B12 := Below.call B10 B10.size b11
  replace o3 := o3.below b11
  replace o5 := o5.below b11
  replace o7 := o7.below b11
  go_wp2_with fail
  refine (eqIntS_same _ _ _ _ _ _ _ _ o5.ints o11.ints).mono ?_
  rintro e W13 ⟨rfl, b13⟩
  have B14 := Below.call B12 B12.size b13
  replace o3 := o3.below b13
  replace o5 := o5.below b13
  replace o7 := o7.below b13
  replace o11 := o11.below b13
  clear o11
  go_wp2_with fail
  refine (markIntS _ _ _ _ _ _ o5 (by omega)).mono ?_
  rintro e W15 ⟨rfl, q15, gr15⟩
  replace o3 := o3.other gr15 lt3 ge5
  replace o7 := o7.other' gr15 lt5 ge7
  have B15 := Below.marked B14 B14.size gr15 gw5
  clear o5
  have o5 := q15
  clear q15 gr15
  go_wp2_with fail
  refine (eqIntS_same _ _ _ _ _ _ _ _ o7.ints o3.ints).mono ?_
  rintro e W16 ⟨rfl, b16⟩
  have B17 := Below.call B15 B15.size b16
  replace o3 := o3.below b16
  replace o7 := o7.below b16
  replace o5 := o5.below b16
  clear o5
  go_wp2_with fail
  refine (markIntS _ _ _ _ _ _ o7 (by omega)).mono ?_
  rintro e W18 ⟨rfl, q18, gr18⟩
  replace o3 := o3.other gr18 lt3 (ge7.mono b5.size)
  have B18 := Below.marked B17 B17.size gr18 gw7
  clear o7
  have o7 := q18
  clear q18 gr18
  go_wp2_with fail
  refine (heldIntS _ _ _ _ o7.ints (by omega)).mono ?_
  rintro e W19 ⟨rfl, b19⟩
  have B20 := Below.call B18 B18.size b19
  replace o3 := o3.below b19
  replace o7 := o7.below b19
  go_wp2_with fail
  refine (toIntS _ _ _ _ _ (hx0.below B20) hn0).mono ?_
  rintro e W21 ⟨A21, m21, d21, rfl, o21, b21⟩
  obtain rfl : n0 = m21 := hx0.length.symm.trans o21.length
  have lt21 := o21.lt
  have ge21 := o21.ge
  have gw21 := ge21.mono B20.size
  have B22 := Below.call B20 B20.size b21
  replace o3 := o3.below b21
  replace o7 := o7.below b21
  go_wp2_with fail
  refine (HI.out _ _ _ o21.ints).mono ?_
  rintro e W23 ⟨A23, m23, d23, rfl, o23, b23⟩
  have l23 : m23 ≤ 2000000 := by rw [← o23.length]; exact hys
  have lt23 := o23.lt
  have ge23 := o23.ge
  have gw23 := ge23.mono B22.size
  have B24 := Below.call B22 B22.size b23
  replace o3 := o3.below b23
  replace o7 := o7.below b23
  replace o21 := o21.below b23
  clear o21
  go_wp2_with fail
  refine (eqIntS_same _ _ _ _ _ _ _ _ o23.ints o3.ints).mono ?_
  rintro e W25 ⟨rfl, b25⟩
  have B26 := Below.call B24 B24.size b25
  replace o3 := o3.below b25
  replace o7 := o7.below b25
  replace o23 := o23.below b25
  clear o23
  clear o3
  go_wp2_with fail
  refine (heldIntS _ _ _ _ o7.ints (by omega)).mono ?_
  rintro e W27 ⟨rfl, b27⟩
  have B28 := Below.call B26 B26.size b27
  replace o7 := o7.below b27
  go_wp2_with fail
  go_ret
  exact ⟨rfl, B28⟩

theorem long_VertexCrimps (w : World) (a0 : Option Addr) (n0 cap0 : Nat) (xs0 : List Int) (hx0 : Ints w a0 n0 cap0 xs0) (s1 : ByteArray) (hs1 : s1.size ≤ maxLen) (hl : ¬ (n0 ≤ 1048576 ∧ s1.size ≤ 1048576)) :
    Calls Try.prog 6 #[.slice a0 n0 cap0, .string s1] w (RVal w (.bool true)) := by
  have hm0 := hx0.cap_max
  have hle0 := hx0.le_cap
  unfold maxLen at hs1
  by_cases hc0 : n0 ≤ 1048576
  · skip
    have hc1 : ¬ s1.size ≤ 1048576 := by omega
    clear hl
    go_enter Try.func6, Try.ntmps6
    go_wp2_with fail
    go_ret
    exact ⟨rfl, Below.refl _ _⟩
  · clear hl
    go_enter Try.func6, Try.ntmps6
    go_wp2_with fail
    go_ret
    exact ⟨rfl, Below.refl _ _⟩



theorem vcL_len (xs : List Int) (s : ByteArray) : (vcL xs s).length ≤ xs.length := by
  unfold vcL crimpsL
  split
  · split
    · exact crimpsTo_len xs s xs.length
    · simp
  · simp
theorem law_FnExactVertexCrimps (w : World) (a : Option Addr) (n cap : Nat) (xs : List Int) (hx : Ints w a n cap xs) (s : ByteArray) (hs : s.size ≤ maxLen) :
    Calls Try.prog 6 #[.slice a n cap, .string s] w (RVal w (.bool true)) := by
  by_cases h : n ≤ 1048576 ∧ s.size ≤ 1048576
  · exact exact_VertexCrimps w a n cap xs hx s hs (vcL xs s) (by have := vcL_len xs s; rw [hx.length] at this; omega) h.1 h.2 (fun W A c h1 => spec_VertexCrimps A n c xs s W h1 h.1 hs) (fun W A c h1 => impl_VertexCrimps A n c xs s W h1 h.1 hs)
  · exact long_VertexCrimps w a n cap xs hx s hs h
end Go.Proofs.Yteigbpmfjiofiab
