/-
  The walk through the law on rings that are cut open: it returns true.
-/
import Derived.Test.YteigbpmfjiofiaaDrawQ
import Derived.Test.YteigbpmfjiofiaaLawHelp
namespace Go.Proofs.Yteigbpmfjiofiaa
open Go.RowKit

set_option maxRecDepth 100000 in
set_option maxHeartbeats 4000000 in
theorem law_FnRingStrip (w : World) (a : Option Addr) (n cap : Nat) (bs : List Int) (hx : Bytes w a n cap bs) :
    Calls Try.prog 9 #[.slice a n cap] w (RVal w (.bool true)) := by
  have hle := hx.1.le
  have hmx := hx.1.max
  unfold maxLen at hmx
  by_cases hn : n ≤ 1048576
  · have H1 := Lib.hid (spec_DrawRingLayers a n cap bs w hx)
    go_enter Try.func9, Try.ntmps9
    go_wp2_with fail
    refine H1.out.mono ?_
    rintro e w1 ⟨a1, n1, c1, xs, s, b1, d1, ys, rfl, i1, hn1, hs1, j1, B1⟩
    have hle1 := i1.le_cap
    have hmx1 := i1.cap_max
    have hle2 := j1.le_cap
    have hmx2 := j1.cap_max
    have P1 := fun (W : World) h1 h2 => impl_RingLayers a1 b1 n1 c1 n1 d1 xs ys s W h1 (by unfold maxLen; omega) h2 (by omega)
    have P2 := fun (W : World) h1 h2 => spec_RingLayers a1 b1 n1 c1 n1 d1 xs ys s W h1 (by omega) (by unfold maxLen; omega) h2 (by omega)
    have e0 : layR xs s ys = rngLB xs s ys := rfl
    rw [e0] at P1 P2
    clear e0
    cases hv : rngLB xs s ys with
    | false =>
      rw [hv] at P1 P2
      have P1 := Lib.hid P1
      have P2 := Lib.hid P2
      clear hv
      go_wp2_with fail
      refine (P1.out w1 i1 j1).mono ?_
      rintro e w2 ⟨rfl, b2⟩
      go_wp2_with fail
      refine (P2.out w2 (i1.below b2) (j1.below b2)).mono ?_
      rintro e w3 ⟨rfl, b3⟩
      go_wp2_with fail
      go_ret
      have B2 := Below.call B1 B1.size b2
      exact ⟨rfl, Below.call B2 B2.size b3⟩
    | true =>
      rw [hv] at P1 P2
      have P1 := Lib.hid P1
      have P2 := Lib.hid P2
      obtain ⟨q1, _, q3, _⟩ := ringB_len (rngLB_iff.1 hv).1
      have hlen := (lengthsB_len q1).1
      have hs1I : (1 : Int) ≤ (s.size : Int) := by omega
      have P3 : Hid (∀ (W : World), Ints W a1 n1 c1 xs → Ints W b1 n1 d1 ys → Calls Try.prog 31 #[.slice a1 n1 c1, .string (s.extract 1 s.size), .slice b1 n1 d1] W (RVal W (.bool true))) := fun W h1 h2 => by
        have := impl_StripLayers a1 b1 n1 c1 n1 d1 xs ys (s.extract 1 s.size) W h1 (by rw [ByteArray.size_extract]; unfold maxLen; omega) h2 (by omega)
        rwa [show layB xs (s.extract 1 s.size) ys = strLB xs (s.extract 1 s.size) ys from rfl, lay_open hv] at this
      have P4 : Hid (∀ (W : World) (A : Option Addr) (m c : Nat), m ≤ 10 → Ints W a1 n1 c1 xs → Ints W A m c ys.reverse → Calls Try.prog 17 #[.slice a1 n1 c1, .string (swapS s), .slice A m c] W (RVal W (.bool true))) := fun W A m c hm h1 h2 => by
        have := impl_RingLayers a1 A n1 c1 m c xs ys.reverse (swapS s) W h1 (by rw [swapS_size]; unfold maxLen; omega) h2 (by omega)
        rwa [show layR xs (swapS s) ys.reverse = rngLB xs (swapS s) ys.reverse from rfl, layR_over hv] at this
      have PF : Hid (∀ W : World, Calls Try.prog 32 #[.string s] W (RStr W (swapS s))) := fun W => impl_FoldsSwap s W (by unfold maxLen; omega)
      have HL2 := Lib.hid j1.length
      clear hv q1 q3 hlen
      go_wp2_with fail
      refine (P1.out w1 i1 j1).mono ?_
      rintro e w2 ⟨rfl, b2⟩
      go_wp2_with fail
      refine (P2.out w2 (i1.below b2) (j1.below b2)).mono ?_
      rintro e w3 ⟨rfl, b3⟩
      have B2 := Below.call B1 B1.size b2
      have B3 := Below.call B2 B2.size b3
      have i3 := (i1.below b2).below b3
      have j3 := (j1.below b2).below b3
      clear i1 j1 P1 P2 b2 b3 B1 B2
      go_wp2_with fail
      refine (P3.out w3 i3 j3).mono ?_
      rintro e w4 ⟨rfl, b4⟩
      have B4 := Below.call B3 B3.size b4
      go_wp2_with fail
      refine (PF.out w4).mono ?_
      rintro e w5 ⟨rfl, b5⟩
      have B5 := Below.call B4 B4.size b5
      have i5 := (i3.below b4).below b5
      have j5 := (j3.below b4).below b5
      go_wp2_with fail
      refine (laws_reversed b1 n1 d1 ys w5 j5 (by omega)).mono ?_
      rintro e w6 ⟨a6, n6, c6, rfl, o6, b6⟩
      have B6 := Below.call B5 B5.size b6
      go_wp2_with fail
      refine (P4.out w6 a6 n6 c6 (by rw [← o6.length, List.length_reverse, HL2.out]; exact hn1) (i5.below b6) o6.ints).mono ?_
      rintro e w7 ⟨rfl, b7⟩
      go_wp2_with fail
      go_ret
      exact ⟨rfl, Below.call B6 B6.size b7⟩
  · go_enter Try.func9, Try.ntmps9
    go_wp2_with fail
    go_ret
    exact ⟨rfl, Below.refl _ _⟩

end Go.Proofs.Yteigbpmfjiofiaa
