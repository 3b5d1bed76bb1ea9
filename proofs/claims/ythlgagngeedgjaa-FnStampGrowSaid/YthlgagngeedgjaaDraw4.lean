/-
  What the drawing of stacks hands back: some short list.
-/
import Derived.Test.YthlgagngeedgjaaDraw3
import Derived.Test.YthlgagngeedgjaaAll4
namespace Go.Proofs.Ythlgagngeedgjaa
open Go.RowKit

/-- Some short list. -/
def RSome10 (w : World) (g : Nat) (e : Ending) (w' : World) : Prop := ∃ (a : Option Addr) (n cap : Nat) (xs : List Int), e = .returned (.slice a n cap) ∧ Ints w' a n cap xs ∧ n ≤ 10 ∧ w.grownBy w' (some g)

theorem stacks_pos {n : Nat} (h1 : 1 ≤ n) (h7 : n ≤ 7) : 1 ≤ (stacks n).length :=
  List.length_pos_of_mem ((mem_stacks h1 h7).2 ⟨upI_length n, upI_possB h1 h7⟩)

theorem go_min5 (x : Int) : (if 5 < x then 5 else x) = min x 5 := by omega

set_option maxHeartbeats 1000000 in
theorem spec_l91Stamps (g p : Nat) (w : World) (h : Rd w g p) (hp : p ≤ 900) :
    Calls Try.prog 67 #[.pointer (some ⟨g, 0, none⟩)] w (RSome10 w g) := by
  have H1 := Lib.hid (spec_pick g p 6 w h (by omega) (by omega) (by omega))
  have hgw := h.lt
  go_enter Try.func67, Try.ntmps67
  go_wp2_with fail
  refine H1.out.mono ?_
  rintro e w1 ⟨x, rfl, ⟨hx0, hx1⟩, r1, g1⟩
  obtain ⟨X, rfl⟩ := Int.eq_ofNat_of_zero_le hx0
  go_wp2_with fail
  refine (spec_pick g (p + 1) 4 w1 r1 (by omega) (by omega) (by omega)).mono ?_
  rintro e w2 ⟨y, rfl, ⟨hy0, hy1⟩, r2, g2⟩
  have G2 := grown_trans g1 g2
  by_cases h0 : y = 0
  · subst h0
    have HL : Hid (∀ v : Int, v = ((1 + X : Nat) : Int) → Calls Try.prog 104 #[.pointer (some ⟨g, 0, none⟩), .int .i64 v, .slice (some ⟨w2.heap.size, 0, none⟩) 0 0] (w2.alloc (.cells #[] 3)) (RList (w2.alloc (.cells #[] 3)) g (p + 1 + 1) 30 (1 + X))) := fun v hv => by
      rw [hv]
      exact spec_l91Layers g (p + 1 + 1) (1 + X) 0 _ 0 [] _ (r2.below ((Below.refl _ _).alloc (Nat.le_refl _) _)) (by omega) (by omega) (Ints.empty _ _ (by unfold maxLen; omega)) (by omega)
    go_wp2_with fail
    refine (HL.out _ (by omega)).mono ?_
    rintro e w3 ⟨a3, c3, xs3, rfl, o3, _, g3⟩
    go_wp2_with fail
    go_ret
    exact ⟨_, _, _, _, rfl, o3.ints, by omega, grown_trans (grown_trans G2 (grown_alloc _ _ _)) g3⟩
  · have hb0 : (y == 0) = false := by rw [beq_eq_false_iff_ne]; exact h0
    obtain ⟨N, hN1, hN2, hN5⟩ : ∃ N : Nat, 1 ≤ N ∧ N ≤ 5 ∧ (N : Int) = min (1 + (X : Int)) 5 := ⟨min (1 + X) 5, by omega, by omega, by omega⟩
    have hmy := manyI_yes (n := N) hN1 (by omega)
    have hsp := stacks_pos (n := N) hN1 (by omega)
    have hss := stacks_small (n := N) (by omega)
    have HM : Hid (∀ v : Int, v = (N : Int) → Calls Try.prog 105 #[.int .i64 v] w2 (RVal w2 (.int .i64 ((stacks N).length : Int)))) := fun v hv => by
      rw [hv, ← hmy]
      exact spec_StampMany (N : Int) w2
    have HNTH : Hid (∀ (v : Int) (r : Nat) (W : World), v = (N : Int) → r < (stacks N).length → Calls Try.prog 66 #[.int .i64 v, .int .i64 r] W (RIntsB W ((stacks N)[r]?.getD []) true)) := fun v r W hv hr => by
      rw [hv]
      exact spec_StampNth_yes N r W hN1 (by omega) hr
    have HLEN : Hid (∀ r : Nat, r < (stacks N).length → ((stacks N)[r]?.getD []).length = N) := fun r hr => ((mem_stacks hN1 (by omega)).1 (getR_mem (stacks N) r [] hr)).1
    have HN5 := Lib.hid hN5
    clear hmy hN5
    generalize (stacks N).length = L at hsp hss HM HNTH HLEN
    by_cases h5 : 5 < 1 + (X : Int)
    · go_wp2_with fail
      refine (HM.out _ (by have := HN5.out; omega)).mono ?_
      rintro e w3 ⟨rfl, b3⟩
      go_wp2_with fail
      refine (spec_pick g (p + 1 + 1) (L : Int) w3 (r2.below b3) (by omega) (by omega) (by omega)).mono ?_
      rintro e w4 ⟨z, rfl, ⟨hz0, hz1⟩, r4, g4⟩
      obtain ⟨Z, rfl⟩ := Int.eq_ofNat_of_zero_le hz0
      go_wp2_with fail
      refine (HNTH.out _ Z w4 (by have := HN5.out; omega) (by omega)).mono ?_
      rintro e w5 ⟨a5, n5, c5, rfl, o5, b5⟩
      go_wp2_with fail
      go_ret
      exact ⟨_, _, _, _, rfl, o5.ints, by have := HLEN.out Z (by omega); rw [o5.length] at this; omega, grown_trans (grown_trans (grown_trans G2 (grown_below b3 _)) g4) (grown_below b5 _)⟩
    · go_wp2_with fail
      refine (HM.out _ (by have := HN5.out; omega)).mono ?_
      rintro e w3 ⟨rfl, b3⟩
      go_wp2_with fail
      refine (spec_pick g (p + 1 + 1) (L : Int) w3 (r2.below b3) (by omega) (by omega) (by omega)).mono ?_
      rintro e w4 ⟨z, rfl, ⟨hz0, hz1⟩, r4, g4⟩
      obtain ⟨Z, rfl⟩ := Int.eq_ofNat_of_zero_le hz0
      go_wp2_with fail
      refine (HNTH.out _ Z w4 (by have := HN5.out; omega) (by omega)).mono ?_
      rintro e w5 ⟨a5, n5, c5, rfl, o5, b5⟩
      go_wp2_with fail
      go_ret
      exact ⟨_, _, _, _, rfl, o5.ints, by have := HLEN.out Z (by omega); rw [o5.length] at this; omega, grown_trans (grown_trans (grown_trans G2 (grown_below b3 _)) g4) (grown_below b5 _)⟩

theorem spec_DrawStampPossible (a : Option Addr) (n cap : Nat) (bs : List Int) (w : World) (h : Bytes w a n cap bs) :
    Calls Try.prog 23 #[.slice a n cap] w (RL w) := by
  have H1 := Lib.hid (spec_l6Open a n cap bs w h)
  go_enter Try.func23, Try.ntmps23
  go_wp2_with (first | (go_at_call 68; refine H1.out.mono ?_; rintro e w1 ⟨rfl, r1, b1⟩; have H2 := Lib.hid (spec_l91Stamps w.heap.size 0 w1 r1 (by omega))) | (go_at_call 67; refine H2.out.mono ?_; rintro e w2 ⟨a2, n2, c2, xs2, rfl, o2, hn2, g2⟩))
  go_ret
  exact ⟨_, _, _, _, rfl, o2, hn2, below_grown b1 b1.size g2 (Nat.le_refl _)⟩
end Go.Proofs.Ythlgagngeedgjaa
