/-
  The walk through the law on StripBack: it returns true.
-/
import Derived.Test.YteigbpmfjiofiaaDraw6
import Derived.Test.YteigbpmfjiofiaaManyS
import Derived.Test.YteigbpmfjiofiaaLawHelp
import Derived.Test.YteigbpmfjiofiaaStrip4
namespace Go.Proofs.Yteigbpmfjiofiaa
open Go.RowKit

theorem manS_cnt {xs : List Int} {s : ByteArray} (h : stripB xs s = true) : manS xs s = (cntS xs s : Int) := manS_yes h

set_option maxRecDepth 100000 in
set_option maxHeartbeats 4000000 in
theorem law_FnStripBack (w : World) (a : Option Addr) (n cap : Nat) (bs : List Int) (hx : Bytes w a n cap bs) :
    Calls Try.prog 14 #[.slice a n cap] w (RVal w (.bool true)) := by
  have hle := hx.1.le
  have hmx := hx.1.max
  unfold maxLen at hmx
  by_cases hn : n ≤ 1048576
  · have H1 := Lib.hid (spec_DrawStripBack a n cap bs w hx)
    go_enter Try.func14, Try.ntmps14
    go_wp2_with fail
    refine H1.out.mono ?_
    rintro e w1 ⟨a1, n1, c1, xs, s, rfl, o1, hn1, hs1, B1⟩
    have i1 := o1.ints
    have hle1 := i1.le_cap
    have hmx1 := i1.cap_max
    have HL1 := Lib.hid i1.length
    have P1 := fun (W : World) h1 => impl_StripBack a1 n1 c1 xs s W h1 (by omega)
    have P2 := fun (W : World) h1 => spec_StripBack a1 n1 c1 xs s W h1 (by omega) (by omega)
    clear o1
    cases hv : stripB xs s with
    | false =>
      rw [hv] at P1 P2
      simp only [Bool.false_eq_true, if_false] at P1 P2
      have P1 := Lib.hid P1
      have P2 := Lib.hid P2
      clear hv
      go_wp2_with fail
      refine (P1.out w1 i1).mono ?_
      rintro e w2 ⟨a2, n2, c2, rfl, o2, b2⟩
      go_wp2_with fail
      refine (P2.out w2 (i1.below b2)).mono ?_
      rintro e w3 ⟨a3, n3, c3, rfl, o3, b3⟩
      go_wp2_with fail
      refine (sameInts_same a2 a3 n2 n3 c2 c3 _ w3 (o2.below b3).ints o3.ints).mono ?_
      rintro e w4 ⟨rfl, b4⟩
      go_wp2_with fail
      refine (sameInts_same a2 a3 n2 n3 c2 c3 _ w4 ((o2.below b3).below b4).ints (o3.below b4).ints).mono ?_
      rintro e w5 ⟨rfl, b5⟩
      go_wp2_with fail
      go_ret
      have B2 := Below.call B1 B1.size b2
      have B3 := Below.call B2 B2.size b3
      have B4 := Below.call B3 B3.size b4
      exact ⟨rfl, Below.call B4 B4.size b5⟩
    | true =>
      rw [hv] at P1 P2
      simp only [if_true] at P1 P2
      have P1 := Lib.hid P1
      have P2 := Lib.hid P2
      have hvb := stripB_back hv
      obtain ⟨_, hst2, hst3⟩ := stripB_len hv
      have P3 : Hid (∀ (W : World) (A : Option Addr) (m c : Nat), Ints W A m c xs.reverse → Calls Try.prog 42 #[.slice A m c, .string (revS s)] W (RIntsSB W xs s true)) := fun W A m c h1 => by
        have := impl_StripBack A m c xs.reverse (revS s) W h1 (by rw [revS_size]; omega)
        rwa [hvb, if_pos rfl, List.reverse_reverse, revS2] at this
      have P4 : Hid (∀ (W : World), Ints W a1 n1 c1 xs → Calls Try.prog 20 #[.slice a1 n1 c1, .string s] W (RVal W (.int .i64 (cntS xs s : Int)))) := fun W h1 => by
        have := impl_StripMany a1 n1 c1 xs s W h1 (by unfold maxLen; omega)
        rwa [manS_cnt hv] at this
      have P5 : Hid (∀ (W : World), Ints W a1 n1 c1 xs → Calls Try.prog 20 #[.slice a1 n1 c1, .string (swapS s)] W (RVal W (.int .i64 (cntS xs s : Int)))) := fun W h1 => by
        have := impl_StripMany a1 n1 c1 xs (swapS s) W h1 (by rw [swapS_size]; unfold maxLen; omega)
        rwa [manS_cnt (stripB_swap hv), cntS_swap hst2 hst3] at this
      have P6 : Hid (∀ (W : World) (A : Option Addr) (m c : Nat), Ints W A m c xs.reverse → Calls Try.prog 20 #[.slice A m c, .string (revS s)] W (RVal W (.int .i64 (cntS xs s : Int)))) := fun W A m c h1 => by
        have := impl_StripMany A m c xs.reverse (revS s) W h1 (by rw [revS_size]; unfold maxLen; omega)
        rwa [manS_cnt hvb, cntS_back hst2] at this
      have PF : Hid (∀ W : World, Calls Try.prog 32 #[.string s] W (RStr W (swapS s))) := fun W => impl_FoldsSwap s W (by unfold maxLen; omega)
      generalize (cntS xs s : Int) = N at P4 P5 P6
      generalize swapS s = sw at P5 PF
      generalize revS s = rs at P1 P2 P3 P6
      generalize xs.reverse = rx at P1 P2 P3 P6
      clear hv hvb hst2 hst3
      go_wp2_with fail
      refine (P1.out w1 i1).mono ?_
      rintro e w2 ⟨a2, n2, c2, rfl, o2, b2⟩
      go_wp2_with fail
      refine (P2.out w2 (i1.below b2)).mono ?_
      rintro e w3 ⟨a3, n3, c3, rfl, o3, b3⟩
      go_wp2_with fail
      refine (sameInts_same a2 a3 n2 n3 c2 c3 _ w3 (o2.below b3).ints o3.ints).mono ?_
      rintro e w4 ⟨rfl, b4⟩
      have i4 := ((i1.below b2).below b3).below b4
      have o4 := (o2.below b3).below b4
      have B2 := Below.call B1 B1.size b2
      have B3 := Below.call B2 B2.size b3
      have B4 := Below.call B3 B3.size b4
      clear i1 o2 o3 b2 b3 b4 B2 B3 B1 P1 P2
      go_wp2_with fail
      refine (P3.out w4 a2 n2 c2 o4.ints).mono ?_
      rintro e w5 ⟨a5, n5, c5, rfl, o5, b5⟩
      have B5 := Below.call B4 B4.size b5
      have i5 := i4.below b5
      have o5' := o4.below b5
      go_wp2_with fail
      refine (sameInts_same a5 a1 n5 n1 c5 c1 _ w5 o5.ints i5).mono ?_
      rintro e w6 ⟨rfl, b6⟩
      have B6 := Below.call B5 B5.size b6
      have i6 := i5.below b6
      have o6 := o5'.below b6
      clear o4 i4 i5 o5 o5' b5 b6 B4 B5
      by_cases h5 : n1 ≤ 5
      · have h5I : ¬ (5 : Int) < (n1 : Int) := by omega
        go_wp2_with fail
        refine (P6.out w6 a2 n2 c2 o6.ints).mono ?_
        rintro e w7 ⟨rfl, b7⟩
        have B7 := Below.call B6 B6.size b7
        have i7 := i6.below b7
        go_wp2_with fail
        refine (P4.out w7 i7).mono ?_
        rintro e w8 ⟨rfl, b8⟩
        have B8 := Below.call B7 B7.size b8
        have i8 := i7.below b8
        go_wp2_with fail
        refine (PF.out w8).mono ?_
        rintro e w9 ⟨rfl, b9⟩
        have B9 := Below.call B8 B8.size b9
        have i9 := i8.below b9
        go_wp2_with fail
        refine (P5.out w9 i9).mono ?_
        rintro e w10 ⟨rfl, b10⟩
        have B10 := Below.call B9 B9.size b10
        have i10 := i9.below b10
        go_wp2_with fail
        refine (P4.out w10 i10).mono ?_
        rintro e w11 ⟨rfl, b11⟩
        go_wp2_with fail
        go_ret
        exact ⟨rfl, Below.call B10 B10.size b11⟩
      · have h5I : (5 : Int) < (n1 : Int) := by omega
        go_wp2_with fail
        go_ret
        exact ⟨rfl, B6⟩
  · go_enter Try.func14, Try.ntmps14
    go_wp2_with fail
    go_ret
    exact ⟨rfl, Below.refl _ _⟩

end Go.Proofs.Yteigbpmfjiofiaa
