/-
  The walk through the law on steps and layers of strips: it returns true.
-/
import Derived.Test.YtahbflbhkalehaaDraw6
import Derived.Test.YtahbflbhkalehaaManyS
import Derived.Test.YtahbflbhkalehaaStepsK
import Derived.Test.YtahbflbhkalehaaPlainO
import Derived.Deep.RegionHeld3
import Derived.BigQuiet
import Derived.IntWalk
namespace Go.Proofs.Ytahbflbhkalehaa
open Go.RowKit

theorem two_many {xs : List Int} {s : ByteArray} (h : stripB xs s = true) : manS xs s = ((rtsS xs s).length : Int) := by unfold manS; rw [if_pos h]
theorem two_none {xs : List Int} {s : ByteArray} (h : stripB xs s = true) (hr : rtsS xs s = []) : foldsB xs s = false := by
  rw [Bool.eq_false_iff]
  intro hf
  obtain ⟨ys, hy⟩ := (folds_iff h).1 hf
  obtain ⟨q1, q2, _⟩ := rightB_iff.1 hy
  have : ys ∈ rtsS xs s := rtsS_mem.2 ⟨h, q1, q2, hy⟩
  rw [hr] at this
  cases this
theorem two_some {xs y : List Int} {s : ByteArray} {t : List (List Int)} (h : stripB xs s = true) (hr : rtsS xs s = y :: t) : foldsB xs s = true ∧ layB xs s y = true ∧ y.length = xs.length := by
  have : y ∈ rtsS xs s := by rw [hr]; exact List.mem_cons_self
  obtain ⟨q1, q2, q3, q4⟩ := rtsS_mem.1 this
  refine ⟨(folds_iff h).2 ⟨y, q4⟩, ?_, q2⟩
  unfold layB
  rw [h, q4]
  rfl

set_option maxRecDepth 100000 in
set_option maxHeartbeats 4000000 in
theorem law_FnStripTwoWays (w : World) (a : Option Addr) (n cap : Nat) (bs : List Int) (hx : Bytes w a n cap bs) :
    Calls Try.prog 3 #[.slice a n cap] w (RVal w (.bool true)) := by
  have hle := hx.1.le
  have hmx := hx.1.max
  unfold maxLen at hmx
  by_cases hn : n ≤ 1048576
  · have H1 := Lib.hid (spec_DrawStripMany a n cap bs w hx)
    go_enter Try.func3, Try.ntmps3
    go_wp2_with fail
    refine H1.out.mono ?_
    rintro e w1 ⟨a1, n1, c1, xs, s, rfl, o1, hn1, hs1, B1⟩
    have i1 := o1.ints
    have hle1 := i1.le_cap
    have hmx1 := i1.cap_max
    have HL1 := Lib.hid i1.length
    have P1 := fun (W : World) h1 => impl_StripMany a1 n1 c1 xs s W h1 (by unfold maxLen; omega)
    have P2 := fun (W : World) h1 => spec_StripMany a1 n1 c1 xs s W h1 (by omega) (by unfold maxLen; omega)
    have P3 := fun (W : World) h1 => impl_StripFirst a1 n1 c1 xs s W h1 (by unfold maxLen; omega)
    have P4 := fun (W : World) h1 => impl_StripFolds a1 n1 c1 xs s W h1 (by unfold maxLen; omega)
    clear o1
    cases hv : stripB xs s with
    | false =>
      rw [manS_no hv] at P1 P2
      have P1 := Lib.hid P1
      have P2 := Lib.hid P2
      clear hv P3 P4
      go_wp2_with fail
      refine (P1.out w1 i1).mono ?_
      rintro e w2 ⟨rfl, b2⟩
      go_wp2_with fail
      refine (P2.out w2 (i1.below b2)).mono ?_
      rintro e w3 ⟨rfl, b3⟩
      go_wp2_with fail
      go_ret
      have B2 := Below.call B1 B1.size b2
      exact ⟨rfl, Below.call B2 B2.size b3⟩
    | true =>
      rw [two_many hv] at P1 P2
      cases hr : rtsS xs s with
      | nil =>
        rw [two_none hv hr] at P4
        rw [hr] at P1 P2 P3
        simp only [List.length_nil, List.head?_nil, Option.getD_none, Option.isSome_none] at P1 P2 P3
        have P1 := Lib.hid P1
        have P2 := Lib.hid P2
        have P3 := Lib.hid P3
        have P4 := Lib.hid P4
        clear hv hr
        go_wp2_with fail
        refine (P1.out w1 i1).mono ?_
        rintro e w2 ⟨rfl, b2⟩
        go_wp2_with fail
        refine (P2.out w2 (i1.below b2)).mono ?_
        rintro e w3 ⟨rfl, b3⟩
        go_wp2_with fail
        refine (P3.out w3 ((i1.below b2).below b3)).mono ?_
        rintro e w4 ⟨a4, n4, c4, rfl, o4, b4⟩
        have i4 := ((i1.below b2).below b3).below b4
        have B2 := Below.call B1 B1.size b2
        have B3 := Below.call B2 B2.size b3
        have B4 := Below.call B3 B3.size b4
        clear hle hmx hn1 hx H1 P1 P2 P3 i1 b2 b3 b4 o4 B2 B3 B1
        go_wp2_with (go_at_call 8; refine (P4.out _ i4).mono ?_; rintro e w5 ⟨rfl, b5⟩)
        all_goals (go_ret; exact ⟨rfl, Below.call B4 B4.size b5⟩)
      | cons y t =>
        obtain ⟨q1, q2, q3⟩ := two_some hv hr
        rw [q1] at P4
        rw [hr] at P1 P2 P3
        simp only [List.length_cons, List.head?_cons, Option.getD_some, Option.isSome_some] at P1 P2 P3
        have P5 : Hid (∀ (W : World) (A : Option Addr) (m c : Nat), m ≤ 1048576 → Ints W a1 n1 c1 xs → Ints W A m c y → Calls Try.prog 9 #[.slice a1 n1 c1, .string s, .slice A m c] W (RVal W (.bool true))) := fun W A m c hm h1 h2 => by
          have := impl_StripLayers a1 A n1 c1 m c xs y s W h1 (by unfold maxLen; omega) h2 hm
          rwa [q2] at this
        have hN : (0 : Int) < ((t.length + 1 : Nat) : Int) := by omega
        generalize t.length + 1 = N at P1 P2 hN
        have hN0 : ¬ (N : Int) < 0 := by omega
        rw [HL1.out] at q3
        have P1 := Lib.hid P1
        have P2 := Lib.hid P2
        have P3 := Lib.hid P3
        have P4 := Lib.hid P4
        clear hv hr q1 q2
        go_wp2_with fail
        refine (P1.out w1 i1).mono ?_
        rintro e w2 ⟨rfl, b2⟩
        go_wp2_with fail
        refine (P2.out w2 (i1.below b2)).mono ?_
        rintro e w3 ⟨rfl, b3⟩
        go_wp2_with fail
        refine (P3.out w3 ((i1.below b2).below b3)).mono ?_
        rintro e w4 ⟨a4, n4, c4, rfl, o4, b4⟩
        have i4 := ((i1.below b2).below b3).below b4
        have B2 := Below.call B1 B1.size b2
        have B3 := Below.call B2 B2.size b3
        have B4 := Below.call B3 B3.size b4
        have hm4 : n4 ≤ 1048576 := by have := o4.length; omega
        have j4 := o4.ints
        clear hle hmx hn1 hx H1 P1 P2 P3 i1 b2 b3 b4 o4 B2 B3 B1 q3
        go_wp2_with (first
          | (go_at_call 8; refine (P4.out _ i4).mono ?_; rintro e w5 ⟨rfl, b5⟩; have b6 := Below.call B4 B4.size b5)
          | (go_at_call 9; refine (P5.out _ _ _ _ hm4 (i4.below b5) (j4.below b5)).mono ?_; rintro e w7 ⟨rfl, b7⟩))
        all_goals (go_ret; exact ⟨rfl, Below.call b6 b6.size b7⟩)
  · go_enter Try.func3, Try.ntmps3
    go_wp2_with fail
    go_ret
    exact ⟨rfl, Below.refl _ _⟩

end Go.Proofs.Ytahbflbhkalehaa
