/-
  The walks through three more exact laws: FoldsBalance, FoldsSwap, AnglesValid: each returns true.
-/
import Derived.Test.YtkhdmihmpkocpaaBalance
import Derived.Test.YtkhdmihmpkocpaaAngles
import Derived.Test.YtkhdmihmpkocpaaShell
namespace Go.Proofs.Ytkhdmihmpkocpaa
open Go.RowKit

theorem law_FnExactFoldsBalance (w : World) (s : ByteArray) (hs : s.size ≤ maxLen) :
    Calls Try.prog 5 #[.string s] w (RVal w (.bool true)) := by
  by_cases h : s.size ≤ 1048576
  · go_enter Try.func5, Try.ntmps5
    go_wp2_with (first | (go_at_call 17; refine (spec_FoldsBalance s _ hs).mono ?_; rintro e w' ⟨rfl, rfl⟩) | (go_at_call 18; refine (impl_FoldsBalance s _ hs).mono ?_; rintro e w' ⟨rfl, rfl⟩))
    go_ret
    exact ⟨rfl, Below.refl _ _⟩
  · go_enter Try.func5, Try.ntmps5
    go_wp2_with fail
    go_ret
    exact ⟨rfl, Below.refl _ _⟩

theorem law_FnExactFoldsSwap (w : World) (s : ByteArray) (hs : s.size ≤ maxLen) :
    Calls Try.prog 6 #[.string s] w (RVal w (.bool true)) := by
  by_cases h : s.size ≤ 1048576
  · go_enter Try.func6, Try.ntmps6
    go_wp2_with (first | (go_at_call 19; refine (spec_FoldsSwap s _ hs).mono ?_; rintro e w' ⟨rfl, rfl⟩) | (go_at_call 20; refine (impl_FoldsSwap s _ hs).mono ?_; rintro e w1 ⟨rfl, hB⟩))
    go_ret
    exact ⟨rfl, hB⟩
  · go_enter Try.func6, Try.ntmps6
    go_wp2_with fail
    go_ret
    exact ⟨rfl, Below.refl _ _⟩

theorem law_FnExactAnglesValid (w : World) (a : Option Addr) (n cap : Nat) (xs : List Int) (hx : Ints w a n cap xs) :
    Calls Try.prog 7 #[.slice a n cap] w (RVal w (.bool true)) := by
  have hm := hx.cap_max
  have hle := hx.le_cap
  by_cases h : n ≤ 1048576
  · go_enter Try.func7, Try.ntmps7
    go_wp2_with fail
    refine (toIntS _ _ _ _ _ hx h).mono ?_
    rintro e w1 ⟨a1, n1, c1, rfl, o1, b1⟩
    obtain rfl : n = n1 := hx.length.symm.trans o1.length
    go_wp2_with fail
    refine (spec_AnglesValid _ _ _ _ _ o1.ints h).mono ?_
    rintro e w' ⟨rfl, rfl⟩
    go_wp2_with fail
    refine (toIntS _ _ _ _ _ (hx.below b1) h).mono ?_
    rintro e w2 ⟨a2, n2, c2, rfl, o2, b2⟩
    obtain rfl : n = n2 := hx.length.symm.trans o2.length
    go_wp2_with fail
    refine (impl_AnglesValid _ _ _ _ _ o2.ints).mono ?_
    rintro e w' ⟨rfl, rfl⟩
    go_wp2_with fail
    have b12 := Below.call b1 b1.size b2
    refine (toIntS _ _ _ _ _ (hx.below b12) h).mono ?_
    rintro e w3 ⟨a3, n3, c3, rfl, o3, b3⟩
    obtain rfl : n = n3 := hx.length.symm.trans o3.length
    go_wp2_with fail
    refine (eqIntS_same _ _ _ _ _ _ _ _ (o2.ints.below b3) o3.ints).mono ?_
    rintro e w4 ⟨rfl, b4⟩
    go_wp2_with fail
    go_ret
    exact ⟨rfl, Below.call (Below.call b12 b12.size b3) (Nat.le_trans b12.size b3.size) b4⟩
  · go_enter Try.func7, Try.ntmps7
    go_wp2_with fail
    go_ret
    exact ⟨rfl, Below.refl _ _⟩

end Go.Proofs.Ytkhdmihmpkocpaa
