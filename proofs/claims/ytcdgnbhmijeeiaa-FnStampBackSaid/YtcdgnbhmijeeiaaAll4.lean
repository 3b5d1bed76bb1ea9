/-
  What StampLow, l3Before, StampRank, StampNth, StampNext and StampClasses of the reference compute, by a walk through each.
-/
import Derived.Test.YtcdgnbhmijeeiaaAll3
namespace Go.Proofs.Ytcdgnbhmijeeiaa
open Go.RowKit

/-- What StampLow answers. -/
def lowI (x k : Int) : Int := if (1 ≤ x ∧ x ≤ 7) ∧ 0 ≤ k ∧ k < x then (lowN x.toNat k : Int) else -1
theorem lowI_yes {n : Nat} {k : Int} (h1 : 1 ≤ n) (h7 : n ≤ 7) (h0 : 0 ≤ k) (hk : k < n) : lowI (n : Int) k = (lowN n k : Int) := by
  unfold lowI
  rw [if_pos ⟨by omega, h0, hk⟩]
  simp
theorem lowI_no {x k : Int} (h : ¬ ((1 ≤ x ∧ x ≤ 7) ∧ 0 ≤ k ∧ k < x)) : lowI x k = -1 := by unfold lowI; rw [if_neg h]

theorem lexB_at {xs ys : List Int} {k : Nat} (hk : k < xs.length) (hk' : k < ys.length) (ht : xs.take k = ys.take k) (hne : ¬ xs[k]?.getD 0 = ys[k]?.getD 0) : lexB xs ys = decide (xs[k]?.getD 0 < ys[k]?.getD 0) := by
  have e1 : xs = xs.take k ++ xs[k]?.getD 0 :: xs.drop (k + 1) := by
    rw [List.getElem?_eq_getElem hk, Option.getD_some, ← List.drop_eq_getElem_cons hk, List.take_append_drop]
  have e2 : ys = xs.take k ++ ys[k]?.getD 0 :: ys.drop (k + 1) := by
    rw [List.getElem?_eq_getElem hk', Option.getD_some, ← List.drop_eq_getElem_cons hk', ht, List.take_append_drop]
  generalize xs[k]?.getD 0 = x at e1 hne ⊢
  generalize ys[k]?.getD 0 = y at e2 hne ⊢
  rw [e1, e2]
  rw [lexB_append]
  simp only [lexB]
  rw [if_neg hne]

/-- How many possible stacks come ahead. -/
def rankN (xs : List Int) : Nat := ((stacks xs.length).filter fun ys => lexB ys xs).length

theorem spec_StampNth_yes (n : Nat) (r : Nat) (w : World) (h1 : 1 ≤ n) (h7 : n ≤ 7) (hr : r < (stacks n).length) :
    Calls Try.prog 112 #[.int .i64 n, .int .i64 r] w (RIntsB w ((stacks n)[r]?.getD []) true) := by
  have H1 := Lib.hid (spec_l6In_yes (n : Int) 1 7 w (by omega) (by omega))
  have H3 := Lib.hid (spec_l3All n h7)
  have HZ := stacks_small (n := n) h7
  have H4 := Lib.hid (fun W => spec_l6In_yes (r : Int) 0 (((stacks n).length : Int) - 1) W (by omega) (by omega))
  have HR := Lib.hid hr
  clear hr
  go_enter Try.func112, Try.ntmps112
  go_wp2_with (first | (go_at_call 63; refine H1.out.mono ?_; clear H1; rintro e w' ⟨rfl, rfl⟩) | (go_at_call 114; refine (H3.out w).mono ?_; rintro e w2 ⟨a1, N, c1, rfl, r1, b2⟩; obtain rfl : N = (stacks n).length := r1.length.symm; obtain ⟨g, A1, m1, c2, rfl, hck, hown⟩ := r1.row HR.out; have r1c := r1.le_cap; have hrN := HR.out) | (go_at_call 63; refine (H4.out _).mono ?_; rintro e w' ⟨rfl, rfl⟩))
  go_ret2
  exact ⟨_, _, _, rfl, hown, b2⟩

theorem spec_StampNth_no (n : Nat) (r : Int) (w : World) (h1 : 1 ≤ n) (h7 : n ≤ 7) (hr : ¬ (0 ≤ r ∧ r < (stacks n).length)) :
    Calls Try.prog 112 #[.int .i64 n, .int .i64 r] w (RIntsB w [] false) := by
  have H1 := Lib.hid (spec_l6In_yes (n : Int) 1 7 w (by omega) (by omega))
  have H3 := Lib.hid (spec_l3All n h7)
  have HZ := stacks_small (n := n) h7
  have H4 := Lib.hid (fun W => spec_l6In_no r 0 (((stacks n).length : Int) - 1) W (by omega))
  clear hr
  go_enter Try.func112, Try.ntmps112
  go_wp2_with (first | (go_at_call 63; refine H1.out.mono ?_; clear H1; rintro e w' ⟨rfl, rfl⟩) | (go_at_call 114; refine (H3.out w).mono ?_; rintro e w2 ⟨a1, N, c1, rfl, r1, b2⟩; obtain rfl : N = (stacks n).length := r1.length.symm) | (go_at_call 63; refine (H4.out _).mono ?_; rintro e w' ⟨rfl, rfl⟩))
  go_ret2
  exact ⟨_, _, _, rfl, OwnI.lit0 _ b2.size, b2.alloc b2.size _⟩

theorem rankN_small {xs : List Int} (h : xs.length ≤ 7) : rankN xs ≤ 823543 := Nat.le_trans (List.length_filter_le _ _) (stacks_small h)

end Go.Proofs.Ytcdgnbhmijeeiaa
