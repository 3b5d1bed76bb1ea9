/-
  What StampLow, l3Before, StampRank, StampNth, StampNext and StampClasses of the reference compute, by a walk through each.
-/
import Derived.Test.YthlgagngeedgjaaAll3
namespace Go.Proofs.Ythlgagngeedgjaa
open Go.RowKit

/-- What StampLow answers. -/
def lowI (x k : Int) : Int := if (1 ≤ x ∧ x ≤ 7) ∧ 0 ≤ k ∧ k < x then (lowN x.toNat k : Int) else -1
theorem lowI_yes {n : Nat} {k : Int} (h1 : 1 ≤ n) (h7 : n ≤ 7) (h0 : 0 ≤ k) (hk : k < n) : lowI (n : Int) k = (lowN n k : Int) := by
  unfold lowI
  rw [if_pos ⟨by omega, h0, hk⟩]
  simp
theorem lowI_no {x k : Int} (h : ¬ ((1 ≤ x ∧ x ≤ 7) ∧ 0 ≤ k ∧ k < x)) : lowI x k = -1 := by unfold lowI; rw [if_neg h]

theorem lexB_at {xs ys : List Int} {k : Nat} (hk : k < xs.length) (hk' : k < ys.length) (ht : xs.take k = ys.take k) (hne : ¬ xs[k]?.getD 0 = ys[k]?.getD 0) : lexB xs ys = decide (xs[k]?.getD 0 < ys[k]?.getD 0) := by
  have e1 : xs = xs.take k ++ xs[k]?.getD 0 :: xs.drop (k + 1) := by
    rw [List.getElem?_eq_getElem hk, Option.getD_some, ← List.drop_eq_getElem_cons hk, List.take_append_drop]
  have e2 : ys = xs.take k ++ ys[k]?.getD 0 :: ys.drop (k + 1) := by
    rw [List.getElem?_eq_getElem hk', Option.getD_some, ← List.drop_eq_getElem_cons hk', ht, List.take_append_drop]
  generalize xs[k]?.getD 0 = x at e1 hne ⊢
  generalize ys[k]?.getD 0 = y at e2 hne ⊢
  rw [e1, e2]
  rw [lexB_append]
  simp only [lexB]
  rw [if_neg hne]

set_option maxHeartbeats 1000000 in
theorem spec_l3Before (a a' : Option Addr) (n cap cap' : Nat) (xs ys : List Int) (w : World) (h : Ints w a n cap xs) (h' : Ints w a' n cap' ys) (hn : n ≤ 1048576) :
    Calls Try.prog 57 #[.slice a n cap, .slice a' n cap'] w (RVal w (.bool (lexB xs ys))) := by
  have H := Lib.hid h.length
  have H' := Lib.hid h'.length
  have hle := h.le_cap
  have hle' := h'.le_cap
  go_enter Try.func57, Try.ntmps57
  go_wp2
  go_loopw [5] (fun i wr => ∃ k : Nat, k ≤ n ∧ i = .int .i64 k ∧ Hid (xs.take k = ys.take k) ∧ Below w.heap.size w wr) (fun i _ => n - (intOf i).toNat)
  case atStart => exact ⟨0, Nat.zero_le _, rfl, rfl, Below.refl _ _⟩
  case round =>
    obtain ⟨k, hk, rfl, HT, hB⟩ := hrel
    by_cases hlt : k < n
    · obtain ⟨b, off, rfl, hc⟩ := (h.below hB).cells (by omega)
      obtain ⟨b', off', rfl, hc'⟩ := (h'.below hB).cells (by omega)
      have c1 := hc k hlt
      have c2 := hc' k hlt
      clear hc hc'
      have hi1 : (k : Int) < n := by omega
      by_cases he : xs[k]?.getD 0 = ys[k]?.getD 0
      · have HT1 : Hid (xs.take (k + 1) = ys.take (k + 1)) := by
          unfold Hid
          rw [take_snocI xs k (by rw [H.out]; exact hlt), take_snocI ys k (by rw [H'.out]; exact hlt), HT.out, he]
        have he1 : (xs[k]?.getD 0 != ys[k]?.getD 0) = false := by rw [bne_eq_false_iff_eq]; exact he
        clear he HT
        go_wp2
        go_quiet (fail)
        go_wp2
        go_roundw
        case rel => exact ⟨k + 1, by omega, by go_num, HT1, below_drewN hB _⟩
        case measure => simp [intOf]; omega
      · have HL := Lib.hid (lexB_at (by rw [H.out]; exact hlt) (by rw [H'.out]; exact hlt) HT.out he)
        have he1 : (xs[k]?.getD 0 != ys[k]?.getD 0) = true := by rw [bne_iff_ne]; exact he
        clear he HT
        go_wp2
        go_quiet (fail)
        go_wp2
        go_quiet (fail)
        go_wp2
        go_ret
        exact ⟨ret_bool HL.out.symm, below_drewN (below_drewN hB _) _⟩
    · have HE : Hid (xs = ys) := by
        have := HT.out
        rwa [take_allI xs k (by rw [H.out]; omega), take_allI ys k (by rw [H'.out]; omega)] at this
      go_wp2
      go_ret
      exact ⟨ret_bool (by rw [HE.out, lexB_irrefl]), hB⟩

/-- How many possible stacks come ahead. -/
def rankN (xs : List Int) : Nat := ((stacks xs.length).filter fun ys => lexB ys xs).length

set_option maxHeartbeats 1000000 in
theorem spec_StampRank (a : Option Addr) (n cap : Nat) (xs : List Int) (w : World) (h : Ints w a n cap xs) (hn : n ≤ 1048576) :
    Calls Try.prog 65 #[.slice a n cap] w (RVal w (.int .i64 (if possB xs then (rankN xs : Int) else -1))) := by
  have H1 := spec_StampPossible a n cap xs w h hn
  cases hv : possB xs with
  | false =>
    rw [hv] at H1
    have H1 := Lib.hid H1
    clear hv
    rw [if_neg (by simp)]
    go_enter Try.func65, Try.ntmps65
    go_wp2_with (go_at_call 25; refine H1.out.mono ?_; rintro e w1 ⟨rfl, b1⟩)
    go_ret
    exact ⟨rfl, b1⟩
  | true =>
    have hl := possB_len hv
    rw [h.length] at hl
    obtain ⟨hl1, hl2⟩ := hl
    rw [hv] at H1
    rw [if_pos rfl]
    have H1 := Lib.hid H1
    have H3 := Lib.hid (spec_l3All n hl2)
    have HZ := Lib.hid (stacks_small (n := n) hl2)
    have HM := Lib.hid (fun xs (hx : xs ∈ stacks n) => ((mem_stacks hl1 hl2).1 hx).1)
    have HR : Hid (rankN xs = ((stacks n).filter fun ys => lexB ys xs).length) := by unfold Hid rankN; rw [h.length]
    have HI := Lib.hid h
    clear hv
    go_enter Try.func65, Try.ntmps65
    go_wp2_with (first | (go_at_call 25; refine H1.out.mono ?_; rintro e w1 ⟨rfl, b1⟩) | (go_at_call 56; refine (H3.out w1).mono ?_; rintro e w2 ⟨a1, N, c1, rfl, r1, b2⟩))
    have HN := Lib.hid r1.length
    have hN : N ≤ 823543 := by rw [← HN.out]; exact HZ.out
    have r1c := r1.le_cap
    have b3 := Below.call b1 b1.size b2
    go_loopw [3, 5] (fun t i wr => ∃ j : Nat, j ≤ N ∧ i = .int .i64 j ∧ t = .int .i64 ((((stacks n).take j).filter fun ys => lexB ys xs).length : Int) ∧ Below w2.heap.size w2 wr) (fun _ i _ => N - (intOf i).toNat)
    case atStart => exact ⟨0, Nat.zero_le _, rfl, rfl, Below.refl _ _⟩
    case round =>
      obtain ⟨j, hj, rfl, rfl, hB⟩ := hrel
      have hq : (((stacks n).take j).filter fun ys => lexB ys xs).length ≤ 823543 := by
        refine Nat.le_trans (List.length_filter_le _ _) ?_
        rw [List.length_take]
        omega
      by_cases hlt : j < N
      · obtain ⟨g, A1, m1, c2, rfl, hck, hown⟩ := (r1.below hB).row hlt
        have hkl : j < (stacks n).length := by rw [HN.out]; exact hlt
        obtain rfl : n = m1 := (HM.out _ (getR_mem (stacks n) j [] hkl)).symm.trans hown.length
        have H5 := spec_l3Before A1 a n c2 cap _ xs wr hown.ints ((HI.out.below b3).below hB) hn
        cases he : lexB ((stacks n)[j]?.getD []) xs with
        | true =>
          rw [he] at H5
          have H5 := Lib.hid H5
          have HS := Lib.hid (filterR_yes (fun ys => lexB ys xs) (stacks n) j [] hkl he)
          clear he hkl
          go_wp2_with (go_at_call 57; refine H5.out.mono ?_; rintro e w4 ⟨rfl, b4⟩)
          go_roundw
          case rel => exact ⟨j + 1, by omega, by go_num, by rw [HS.out, List.length_append]; go_num, Below.call hB hB.size b4⟩
          case measure => simp [intOf]; omega
        | false =>
          rw [he] at H5
          have H5 := Lib.hid H5
          have HS := Lib.hid (filterR_no (fun ys => lexB ys xs) (stacks n) j [] hkl he)
          clear he hkl
          go_wp2_with (go_at_call 57; refine H5.out.mono ?_; rintro e w4 ⟨rfl, b4⟩)
          go_roundw
          case rel => exact ⟨j + 1, by omega, by go_num, by rw [HS.out], Below.call hB hB.size b4⟩
          case measure => simp [intOf]; omega
      · have HE : Hid ((((stacks n).take j).filter fun ys => lexB ys xs).length = rankN xs) := by
          unfold Hid
          rw [HR.out, List.take_of_length_le (by rw [HN.out]; omega)]
        go_wp2
        go_ret
        exact ⟨ret_int (by rw [HE.out]), b3.trans (hB.mono b3.size)⟩

theorem spec_StampNth_yes (n : Nat) (r : Nat) (w : World) (h1 : 1 ≤ n) (h7 : n ≤ 7) (hr : r < (stacks n).length) :
    Calls Try.prog 66 #[.int .i64 n, .int .i64 r] w (RIntsB w ((stacks n)[r]?.getD []) true) := by
  have H1 := Lib.hid (spec_l6In_yes (n : Int) 1 7 w (by omega) (by omega))
  have H3 := Lib.hid (spec_l3All n h7)
  have HZ := stacks_small (n := n) h7
  have H4 := Lib.hid (fun W => spec_l6In_yes (r : Int) 0 (((stacks n).length : Int) - 1) W (by omega) (by omega))
  have HR := Lib.hid hr
  clear hr
  go_enter Try.func66, Try.ntmps66
  go_wp2_with (first | (go_at_call 55; refine H1.out.mono ?_; clear H1; rintro e w' ⟨rfl, rfl⟩) | (go_at_call 56; refine (H3.out w).mono ?_; rintro e w2 ⟨a1, N, c1, rfl, r1, b2⟩; obtain rfl : N = (stacks n).length := r1.length.symm; obtain ⟨g, A1, m1, c2, rfl, hck, hown⟩ := r1.row HR.out; have r1c := r1.le_cap; have hrN := HR.out) | (go_at_call 55; refine (H4.out _).mono ?_; rintro e w' ⟨rfl, rfl⟩))
  go_ret2
  exact ⟨_, _, _, rfl, hown, b2⟩

theorem spec_StampNth_no (n : Nat) (r : Int) (w : World) (h1 : 1 ≤ n) (h7 : n ≤ 7) (hr : ¬ (0 ≤ r ∧ r < (stacks n).length)) :
    Calls Try.prog 66 #[.int .i64 n, .int .i64 r] w (RIntsB w [] false) := by
  have H1 := Lib.hid (spec_l6In_yes (n : Int) 1 7 w (by omega) (by omega))
  have H3 := Lib.hid (spec_l3All n h7)
  have HZ := stacks_small (n := n) h7
  have H4 := Lib.hid (fun W => spec_l6In_no r 0 (((stacks n).length : Int) - 1) W (by omega))
  clear hr
  go_enter Try.func66, Try.ntmps66
  go_wp2_with (first | (go_at_call 55; refine H1.out.mono ?_; clear H1; rintro e w' ⟨rfl, rfl⟩) | (go_at_call 56; refine (H3.out w).mono ?_; rintro e w2 ⟨a1, N, c1, rfl, r1, b2⟩; obtain rfl : N = (stacks n).length := r1.length.symm) | (go_at_call 55; refine (H4.out _).mono ?_; rintro e w' ⟨rfl, rfl⟩))
  go_ret2
  exact ⟨_, _, _, rfl, OwnI.lit0 _ b2.size, b2.alloc b2.size _⟩

theorem spec_StampNext_no (a : Option Addr) (n cap : Nat) (xs : List Int) (w : World) (h : Ints w a n cap xs) (hn : n ≤ 1048576) (hv : possB xs = false) :
    Calls Try.prog 17 #[.slice a n cap] w (RIntsB w [] false) := by
  have H1 := spec_StampRank a n cap xs w h hn
  rw [hv, if_neg (by simp)] at H1
  have H1 := Lib.hid H1
  clear hv
  go_enter Try.func17, Try.ntmps17
  go_wp2_with (go_at_call 65; refine H1.out.mono ?_; rintro e w1 ⟨rfl, b1⟩)
  go_ret2
  exact ⟨_, _, _, rfl, OwnI.lit0 _ b1.size, b1.alloc b1.size _⟩

theorem rankN_small {xs : List Int} (h : xs.length ≤ 7) : rankN xs ≤ 823543 := Nat.le_trans (List.length_filter_le _ _) (stacks_small h)

theorem spec_StampNext_yes (a : Option Addr) (n cap : Nat) (xs : List Int) (w : World) (h : Ints w a n cap xs) (hn : n ≤ 1048576) (hv : possB xs = true) (hr : rankN xs + 1 < (stacks n).length) :
    Calls Try.prog 17 #[.slice a n cap] w (RIntsB w ((stacks n)[rankN xs + 1]?.getD []) true) := by
  have H1 := spec_StampRank a n cap xs w h hn
  have hl := possB_len hv
  have hrs := rankN_small hl.2
  rw [h.length] at hl
  rw [hv, if_pos rfl] at H1
  have H1 := Lib.hid H1
  have H2 := fun W => spec_StampNth_yes n (rankN xs + 1) W hl.1 hl.2 hr
  rw [show ((rankN xs + 1 : Nat) : Int) = (rankN xs : Int) + 1 by omega] at H2
  have H2 := Lib.hid H2
  clear hv hr
  go_enter Try.func17, Try.ntmps17
  go_wp2_with (first | (go_at_call 65; refine H1.out.mono ?_; rintro e w1 ⟨rfl, b1⟩) | (go_at_call 66; refine (H2.out _).mono ?_; rintro e w2 ⟨a1, n1, c1, rfl, o1, b2⟩))
  go_ret2
  exact ⟨_, _, _, rfl, o1.mono b1.size, Below.call b1 b1.size b2⟩

theorem spec_StampNext_end (a : Option Addr) (n cap : Nat) (xs : List Int) (w : World) (h : Ints w a n cap xs) (hn : n ≤ 1048576) (hv : possB xs = true) (hr : ¬ rankN xs + 1 < (stacks n).length) :
    Calls Try.prog 17 #[.slice a n cap] w (RIntsB w [] false) := by
  have H1 := spec_StampRank a n cap xs w h hn
  have hl := possB_len hv
  have hrs := rankN_small hl.2
  rw [h.length] at hl
  rw [hv, if_pos rfl] at H1
  have H1 := Lib.hid H1
  have H2 := Lib.hid (fun W => spec_StampNth_no n ((rankN xs : Int) + 1) W hl.1 hl.2 (by omega))
  clear hv hr
  go_enter Try.func17, Try.ntmps17
  go_wp2_with (first | (go_at_call 65; refine H1.out.mono ?_; rintro e w1 ⟨rfl, b1⟩) | (go_at_call 66; refine (H2.out _).mono ?_; rintro e w2 ⟨a1, n1, c1, rfl, o1, b2⟩))
  go_ret2
  exact ⟨_, _, _, rfl, o1.mono b1.size, Below.call b1 b1.size b2⟩

end Go.Proofs.Ythlgagngeedgjaa
