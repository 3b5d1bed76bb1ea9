/-
  What the reference draws for strips: a list and a text, and layers, short ones; of what they are nothing more is said.
-/
import Derived.Test.YteigbpmfjiofiaaDraw3
import Derived.Test.YteigbpmfjiofiaaManyS
namespace Go.Proofs.Yteigbpmfjiofiaa
open Go.RowKit

theorem spec_DrawStripFirst (a : Option Addr) (n cap : Nat) (bs : List Int) (w : World) (h : Bytes w a n cap bs) :
    Calls Try.prog 39 #[.slice a n cap] w (RLT w) := by
  have H1 := Lib.hid (spec_l6Open a n cap bs w h)
  go_enter Try.func39, Try.ntmps39
  go_wp2_with (first | (go_at_call 57; refine H1.out.mono ?_; rintro e w1 ⟨rfl, r1, b1⟩; have H2 := Lib.hid (spec_l91Strip w.heap.size 0 5 w1 r1 (by omega) (by omega) (by omega))) | (go_at_call 59; refine H2.out.mono ?_; rintro e w2 ⟨a2, n2, c2, xs2, s2, rfl, o2, hn2, hs2, ⟨p2, hp2, r2⟩, g2⟩))
  go_ret2
  exact ⟨_, _, _, _, _, rfl, o2.mono b1.size, hn2, hs2, below_grown b1 b1.size g2 (Nat.le_refl _)⟩
theorem spec_DrawStripBack (a : Option Addr) (n cap : Nat) (bs : List Int) (w : World) (h : Bytes w a n cap bs) :
    Calls Try.prog 41 #[.slice a n cap] w (RLT w) := by
  have H1 := Lib.hid (spec_l6Open a n cap bs w h)
  go_enter Try.func41, Try.ntmps41
  go_wp2_with (first | (go_at_call 57; refine H1.out.mono ?_; rintro e w1 ⟨rfl, r1, b1⟩; have H2 := Lib.hid (spec_l91Strip w.heap.size 0 6 w1 r1 (by omega) (by omega) (by omega))) | (go_at_call 59; refine H2.out.mono ?_; rintro e w2 ⟨a2, n2, c2, xs2, s2, rfl, o2, hn2, hs2, ⟨p2, hp2, r2⟩, g2⟩))
  go_ret2
  exact ⟨_, _, _, _, _, rfl, o2.mono b1.size, hn2, hs2, below_grown b1 b1.size g2 (Nat.le_refl _)⟩
/-- What the drawing of a list, a text and layers hands back, to the law. -/
def RLTL (w : World) (e : Ending) (w' : World) : Prop := ∃ (a : Option Addr) (n cap : Nat) (xs : List Int) (s : ByteArray) (b : Option Addr) (cb : Nat) (ys : List Int), e = .returned (.tuple #[.slice a n cap, .string s, .slice b n cb]) ∧ Ints w' a n cap xs ∧ n ≤ 10 ∧ s.size ≤ 20 ∧ Ints w' b n cb ys ∧ Below w.heap.size w w'

set_option maxHeartbeats 1000000 in
theorem spec_DrawStripLayers (a : Option Addr) (n cap : Nat) (bs : List Int) (w : World) (h : Bytes w a n cap bs) :
    Calls Try.prog 37 #[.slice a n cap] w (RLTL w) := by
  have H1 := Lib.hid (spec_l6Open a n cap bs w h)
  go_enter Try.func37, Try.ntmps37
  go_wp2_with (go_at_call 57; refine H1.out.mono ?_; rintro e w1 ⟨rfl, r1, b1⟩; have H2 := Lib.hid (spec_l91Strip w.heap.size 0 5 w1 r1 (by omega) (by omega) (by omega)))
  refine H2.out.mono ?_
  rintro e w2 ⟨a2, n2, c2, xs2, s2, rfl, o2, hn2, hs2, ⟨p2, hp2, r2⟩, g2⟩
  have hle2 := o2.ints.le_cap
  have B2 := below_grown b1 b1.size g2 (Nat.le_refl _)
  have H3 := Lib.hid (spec_StripFirst a2 n2 c2 xs2 s2 w2 o2.ints (by omega) (by unfold maxLen; omega))
  have HLN := Lib.hid (rtsS_len xs2 s2)
  have HL2 := Lib.hid o2.length
  go_wp2_with fail
  refine H3.out.mono ?_
  rintro e w3 ⟨a3, n3, c3, rfl, o3, b3⟩
  have hn3 : n3 ≤ 10 := by have := HLN.out; rw [o3.length, HL2.out] at this; omega
  have B3 := Below.call B2 B2.size b3
  have r3 := r2.below b3
  have i2 := o2.ints.below b3
  have hg2 : w.heap.size < w3.heap.size := by have := r3.lt; exact this
  have o2' := o2.below b3
  go_wp2_with fail
  refine (spec_l91Layers w.heap.size p2 n2 n3 a3 c3 _ w3 r3 (by omega) hn2 o3.ints hn3).mono ?_
  rintro e w4 ⟨a4, c4, ys4, rfl, o4, ⟨p4, hp4, r4⟩, g4⟩
  have i4 := (o2'.asked g4 (by have := r1.lt; omega)).ints
  go_wp2_with fail
  go_ret3
  exact ⟨_, _, _, _, _, _, _, _, rfl, i4, hn2, hs2, o4.ints, below_grown B3 B3.size g4 (Nat.le_refl _)⟩

end Go.Proofs.Yteigbpmfjiofiaa
