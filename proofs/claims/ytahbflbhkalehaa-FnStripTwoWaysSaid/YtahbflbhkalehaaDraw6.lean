/-
  What the reference draws for strips: a list and a text, short ones; of what they are nothing more is said.
-/
import Derived.Test.YtahbflbhkalehaaDraw2
namespace Go.Proofs.Ytahbflbhkalehaa
open Go.RowKit

theorem spec_DrawStripMany (a : Option Addr) (n cap : Nat) (bs : List Int) (w : World) (h : Bytes w a n cap bs) :
    Calls Try.prog 4 #[.slice a n cap] w (RLT w) := by
  have H1 := Lib.hid (spec_l6Open a n cap bs w h)
  go_enter Try.func4, Try.ntmps4
  go_wp2_with (first | (go_at_call 11; refine H1.out.mono ?_; rintro e w1 ⟨rfl, r1, b1⟩; have H2 := Lib.hid (spec_l91Strip w.heap.size 0 5 w1 r1 (by omega) (by omega) (by omega))) | (go_at_call 10; refine H2.out.mono ?_; rintro e w2 ⟨a2, n2, c2, xs2, s2, rfl, o2, hn2, hs2, ⟨p2, hp2, r2⟩, g2⟩))
  go_ret2
  exact ⟨_, _, _, _, _, rfl, o2.mono b1.size, hn2, hs2, below_grown b1 b1.size g2 (Nat.le_refl _)⟩
end Go.Proofs.Ytahbflbhkalehaa
