/-
  What AnglesValid, in the reference and in the program, computes, by a walk through each.
-/
import Derived.Test.YteigbpmfjiofiabHelp
import Derived.Test.YteigbpmfjiofiabPlainA
namespace Go.Proofs.Yteigbpmfjiofiab
open Go.RowKit

set_option maxHeartbeats 400000 in
theorem spec_l1Sum (a : Option Addr) (n cap : Nat) (xs : List Int) (w : World) (h : Ints w a n cap xs) (hn : n ≤ 1048576) (hin : allIn 1 360 xs) :
    Calls Try.prog 68 #[.slice a n cap] w fun e w' => e = .returned (.int .i64 xs.sum) ∧ w = w' := by
  have H := Lib.hid h.length
  have HI := Lib.hid hin
  clear hin
  have hle := h.le_cap
  go_enter Try.func68, Try.ntmps68
  go_wp2
  go_loop [3, 4] (fun t i => ∃ k : Nat, k ≤ n ∧ i = .int .i64 k ∧ t = .int .i64 (xs.take k).sum) (fun _ i => n - (intOf i).toNat)
  case atStart => exact ⟨0, Nat.zero_le _, rfl, rfl⟩
  case round =>
    obtain ⟨k, hk, rfl, rfl⟩ := hrel
    by_cases hlt : k < n
    · obtain ⟨b, off, rfl, hc⟩ := h.cells (by omega)
      have hck := hc k hlt
      clear hc
      have hx := allIn_get HI.out k (by rw [H.out]; exact hlt)
      have hs := sum_take_bd HI.out k
      go_wp2
      go_round
      case rel => exact ⟨k + 1, by omega, by go_num, by rw [take_snocI xs k (by rw [H.out]; exact hlt), sum_snocI]⟩
      case measure => simp [intOf]; omega
    · go_wp2
      go_ret
      exact ⟨ret_int (by rw [take_allI xs k (by rw [H.out]; omega)]), rfl⟩

theorem spec_l6In (x lo hi : Int) (w : World) :
    Calls Try.prog 53 #[.int .i64 x, .int .i64 lo, .int .i64 hi] w fun e w' => e = .returned (.bool (decide (lo ≤ x ∧ x ≤ hi))) ∧ w = w' := by
  by_cases h1 : lo ≤ x
  · go_enter Try.func53, Try.ntmps53
    go_wp2
    go_ret
    exact ⟨ret_bool (by simp [h1]), rfl⟩
  · go_enter Try.func53, Try.ntmps53
    go_wp2
    go_ret
    exact ⟨ret_bool (by simp; omega), rfl⟩
theorem spec_l6In_yes (x lo hi : Int) (w : World) (h1 : lo ≤ x) (h2 : x ≤ hi) :
    Calls Try.prog 53 #[.int .i64 x, .int .i64 lo, .int .i64 hi] w fun e w' => e = .returned (.bool true) ∧ w = w' :=
  (spec_l6In x lo hi w).mono fun _ _ ⟨he, hw⟩ => ⟨by rw [he, decide_eq_true ⟨h1, h2⟩], hw⟩
theorem spec_l6In_no (x lo hi : Int) (w : World) (h : ¬ (lo ≤ x ∧ x ≤ hi)) :
    Calls Try.prog 53 #[.int .i64 x, .int .i64 lo, .int .i64 hi] w fun e w' => e = .returned (.bool false) ∧ w = w' :=
  (spec_l6In x lo hi w).mono fun _ _ ⟨he, hw⟩ => ⟨by rw [he, decide_eq_false h], hw⟩

set_option maxHeartbeats 1000000 in
theorem spec_AnglesValid (a : Option Addr) (n cap : Nat) (xs : List Int) (w : World) (h : Ints w a n cap xs) (hn : n ≤ 1048576) :
    Calls Try.prog 44 #[.slice a n cap] w fun e w' => e = .returned (.bool (anglesB xs)) ∧ w = w' := by
  have H := Lib.hid h.length
  have hle := h.le_cap
  go_enter Try.func44, Try.ntmps44
  go_wp2
  go_loop [3] (fun i => ∃ k : Nat, k ≤ n ∧ i = .int .i64 k ∧ Hid (allIn 1 360 (xs.take k))) (fun i => n - (intOf i).toNat)
  case atStart => exact ⟨0, Nat.zero_le _, rfl, allIn_nil _ _⟩
  case round =>
    obtain ⟨k, hk, rfl, HA⟩ := hrel
    by_cases hlt : k < n
    · obtain ⟨b, off, rfl, hc⟩ := h.cells (by omega)
      have hck := hc k hlt
      clear hc
      by_cases hin : 1 ≤ xs[k]?.getD 0 ∧ xs[k]?.getD 0 ≤ 360
      · go_wp2_with (go_at_call 53; refine (spec_l6In_yes _ _ _ _ hin.1 hin.2).mono ?_; rintro e w' ⟨rfl, rfl⟩)
        go_round
        case rel => exact ⟨k + 1, by omega, by go_num, by unfold Hid; rw [take_snocI xs k (by rw [H.out]; exact hlt)]; exact allIn_snoc HA.out hin.1 hin.2⟩
        case measure => simp [intOf]; omega
      · go_wp2_with (go_at_call 53; refine (spec_l6In_no _ _ _ _ hin).mono ?_; rintro e w' ⟨rfl, rfl⟩)
        go_ret
        exact ⟨ret_bool (anglesB_false fun hx => not_allIn k (by rw [H.out]; exact hlt) hin hx.2.2.2.1).symm, rfl⟩
    · have HI : Hid (allIn 1 360 xs) := by have := HA.out; rwa [take_allI xs k (by rw [H.out]; omega)] at this
      clear HA
      by_cases h2 : n % 2 = 0
      · by_cases h3 : 2 ≤ n ∧ n ≤ 10
        · obtain ⟨h3, h4⟩ := h3
          go_wp2_with (first | (go_at_call 53; refine (spec_l6In_yes _ _ _ _ (by omega) (by omega)).mono ?_; rintro e w' ⟨rfl, rfl⟩) | (go_at_call 68; refine (spec_l1Sum _ _ _ _ _ h hn HI.out).mono ?_; rintro e w' ⟨rfl, rfl⟩))
          go_ret
          refine ⟨ret_bool ?_, rfl⟩
          unfold anglesB
          rw [H.out, beq_dec]
          simp [h3, h4, h2, HI.out]
        · go_wp2_with (go_at_call 53; refine (spec_l6In_no _ _ _ _ (by omega)).mono ?_; rintro e w' ⟨rfl, rfl⟩)
          go_ret
          exact ⟨ret_bool (anglesB_false fun hx => h3 (by rw [H.out] at hx; exact ⟨hx.1, hx.2.1⟩)).symm, rfl⟩
      · go_wp2_with fail
        go_ret
        exact ⟨ret_bool (anglesB_false fun hx => h2 (by rw [H.out] at hx; exact hx.2.2.1)).symm, rfl⟩

set_option maxHeartbeats 1000000 in
theorem impl_AnglesValid (a : Option Addr) (n cap : Nat) (xs : List Int) (w : World) (h : Ints w a n cap xs) :
    Calls Try.prog 47 #[.slice a n cap] w fun e w' => e = .returned (.bool (anglesB xs)) ∧ w = w' := by
  have H := Lib.hid h.length
  have hle := h.le_cap
  have hm := h.cap_max
  by_cases h1 : 2 ≤ n
  · by_cases h2 : n ≤ 10
    · by_cases h3 : n % 2 = 0
      · have h4 : ((n : Int) % 2 != 0) = false := by rw [bne_eq_false_iff_eq]; omega
        go_enter Try.func47, Try.ntmps47
        go_wp2
        go_loop [4, 22] (fun t i => ∃ k : Nat, k ≤ n ∧ i = .int .i64 k ∧ t = .int .i64 (xs.take k).sum ∧ Hid (allIn 1 360 (xs.take k))) (fun _ i => n - (intOf i).toNat)
        case atStart => exact ⟨0, Nat.zero_le _, rfl, rfl, allIn_nil _ _⟩
        case round =>
          obtain ⟨k, hk, rfl, rfl, HA⟩ := hrel
          have hs := sum_take_bd HA.out k
          rw [List.take_take, Nat.min_self] at hs
          by_cases hlt : k < n
          · obtain ⟨b, off, rfl, hc⟩ := h.cells (by omega)
            have hck := hc k hlt
            clear hc
            by_cases hi1 : 1 ≤ xs[k]?.getD 0
            · by_cases hi2 : xs[k]?.getD 0 ≤ 360
              · go_wp2
                go_round
                case rel => exact ⟨k + 1, by omega, by go_num, by rw [take_snocI xs k (by rw [H.out]; exact hlt), sum_snocI], by unfold Hid; rw [take_snocI xs k (by rw [H.out]; exact hlt)]; exact allIn_snoc HA.out hi1 hi2⟩
                case measure => simp [intOf]; omega
              · go_wp2
                go_ret
                exact ⟨ret_bool (anglesB_false fun hx => not_allIn k (by rw [H.out]; exact hlt) (fun q => by omega) hx.2.2.2.1).symm, rfl⟩
            · go_wp2
              go_ret
              exact ⟨ret_bool (anglesB_false fun hx => not_allIn k (by rw [H.out]; exact hlt) (fun q => by omega) hx.2.2.2.1).symm, rfl⟩
          · rw [take_allI xs k (by rw [H.out]; omega)] at HA hs ⊢
            go_wp2
            go_ret
            refine ⟨ret_bool ?_, rfl⟩
            unfold anglesB
            rw [H.out, beq_dec]
            simp [h1, h2, h3, HA.out]
      · have h4 : ((n : Int) % 2 != 0) = true := by rw [bne_iff_ne]; omega
        go_enter Try.func47, Try.ntmps47
        go_wp2
        go_ret
        exact ⟨ret_bool (anglesB_false fun hx => h3 (by rw [H.out] at hx; exact hx.2.2.1)).symm, rfl⟩
    · go_enter Try.func47, Try.ntmps47
      go_wp2
      go_ret
      exact ⟨ret_bool (anglesB_false fun hx => h2 (by rw [H.out] at hx; exact hx.2.1)).symm, rfl⟩
  · go_enter Try.func47, Try.ntmps47
    go_wp2
    go_ret
    exact ⟨ret_bool (anglesB_false fun hx => h1 (by rw [H.out] at hx; exact hx.1)).symm, rfl⟩

end Go.Proofs.Yteigbpmfjiofiab
