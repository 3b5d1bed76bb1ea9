/-
  What lengthsValid, StripValid, RingValid, placesOf, StripPlaces, StripWide compute, in the reference and in the program, by a walk through each.
-/
import Derived.Test.YtahbflbhkalehaaTurn
import Derived.Test.YtahbflbhkalehaaFolds
import Derived.Test.YtahbflbhkalehaaPlainS
namespace Go.Proofs.Ytahbflbhkalehaa
open Go.RowKit

set_option maxHeartbeats 1000000 in
theorem spec_l2Lengths (a : Option Addr) (n cap : Nat) (xs : List Int) (w : World) (h : Ints w a n cap xs) (hn : n ≤ 1048576) :
    Calls Try.prog 28 #[.slice a n cap] w fun e w' => e = .returned (.bool (lengthsB xs)) ∧ w = w' := by
  have H := Lib.hid h.length
  have hle := h.le_cap
  go_enter Try.func28, Try.ntmps28
  go_wp2
  go_loop [3] (fun i => ∃ k : Nat, k ≤ n ∧ i = .int .i64 k ∧ Hid (allIn 1 1000 (xs.take k))) (fun i => n - (intOf i).toNat)
  case atStart => exact ⟨0, Nat.zero_le _, rfl, allIn_nil _ _⟩
  case round =>
    obtain ⟨k, hk, rfl, HA⟩ := hrel
    by_cases hlt : k < n
    · obtain ⟨b, off, rfl, hc⟩ := h.cells (by omega)
      have hck := hc k hlt
      clear hc
      by_cases hin : 1 ≤ xs[k]?.getD 0 ∧ xs[k]?.getD 0 ≤ 1000
      · go_wp2_with (go_at_call 44; refine (spec_l6In_yes _ _ _ _ hin.1 hin.2).mono ?_; rintro e w' ⟨rfl, rfl⟩)
        go_round
        case rel => exact ⟨k + 1, by omega, by go_num, by unfold Hid; rw [take_snocI xs k (by rw [H.out]; exact hlt)]; exact allIn_snoc HA.out hin.1 hin.2⟩
        case measure => simp [intOf]; omega
      · go_wp2_with (go_at_call 44; refine (spec_l6In_no _ _ _ _ hin).mono ?_; rintro e w' ⟨rfl, rfl⟩)
        go_ret
        exact ⟨ret_bool (lengthsB_false fun hx => not_allIn k (by rw [H.out]; exact hlt) hin hx.2.2).symm, rfl⟩
    · have HI : Hid (allIn 1 1000 xs) := by have := HA.out; rwa [take_allI xs k (by rw [H.out]; omega)] at this
      clear HA
      by_cases h3 : 1 ≤ n ∧ n ≤ 6
      · obtain ⟨h3, h4⟩ := h3
        go_wp2_with (go_at_call 44; refine (spec_l6In_yes _ _ _ _ (by omega) (by omega)).mono ?_; rintro e w' ⟨rfl, rfl⟩)
        go_ret
        refine ⟨ret_bool ?_, rfl⟩
        unfold lengthsB
        rw [H.out]
        simp [h3, h4, HI.out]
      · go_wp2_with (go_at_call 44; refine (spec_l6In_no _ _ _ _ (by omega)).mono ?_; rintro e w' ⟨rfl, rfl⟩)
        go_ret
        exact ⟨ret_bool (lengthsB_false fun hx => h3 (by rw [H.out] at hx; exact ⟨hx.1, hx.2.1⟩)).symm, rfl⟩

set_option maxHeartbeats 1000000 in
theorem impl_lengthsValid (a : Option Addr) (n cap : Nat) (xs : List Int) (w : World) (h : Ints w a n cap xs) :
    Calls Try.prog 22 #[.slice a n cap] w fun e w' => e = .returned (.bool (lengthsB xs)) ∧ w = w' := by
  have H := Lib.hid h.length
  have hle := h.le_cap
  have hm := h.cap_max
  by_cases h1 : 1 ≤ n
  · by_cases h2 : n ≤ 6
    · go_enter Try.func22, Try.ntmps22
      go_wp2
      go_loop [15] (fun i => ∃ k : Nat, k ≤ n ∧ i = .int .i64 k ∧ Hid (allIn 1 1000 (xs.take k))) (fun i => n - (intOf i).toNat)
      case atStart => exact ⟨0, Nat.zero_le _, rfl, allIn_nil _ _⟩
      case round =>
        obtain ⟨k, hk, rfl, HA⟩ := hrel
        by_cases hlt : k < n
        · obtain ⟨b, off, rfl, hc⟩ := h.cells (by omega)
          have hck := hc k hlt
          clear hc
          by_cases hi1 : 1 ≤ xs[k]?.getD 0
          · by_cases hi2 : xs[k]?.getD 0 ≤ 1000
            · go_wp2
              go_round
              case rel => exact ⟨k + 1, by omega, by go_num, by unfold Hid; rw [take_snocI xs k (by rw [H.out]; exact hlt)]; exact allIn_snoc HA.out hi1 hi2⟩
              case measure => simp [intOf]; omega
            · go_wp2
              go_ret
              exact ⟨ret_bool (lengthsB_false fun hx => not_allIn k (by rw [H.out]; exact hlt) (fun q => by omega) hx.2.2).symm, rfl⟩
          · go_wp2
            go_ret
            exact ⟨ret_bool (lengthsB_false fun hx => not_allIn k (by rw [H.out]; exact hlt) (fun q => by omega) hx.2.2).symm, rfl⟩
        · rw [take_allI xs k (by rw [H.out]; omega)] at HA
          go_wp2
          go_ret
          refine ⟨ret_bool ?_, rfl⟩
          unfold lengthsB
          rw [H.out]
          simp [h1, h2, HA.out]
    · go_enter Try.func22, Try.ntmps22
      go_wp2
      go_ret
      exact ⟨ret_bool (lengthsB_false fun hx => h2 (by rw [H.out] at hx; exact hx.2.1)).symm, rfl⟩
  · go_enter Try.func22, Try.ntmps22
    go_wp2
    go_ret
    exact ⟨ret_bool (lengthsB_false fun hx => h1 (by rw [H.out] at hx; exact hx.1)).symm, rfl⟩

theorem spec_StripValid (a : Option Addr) (n cap : Nat) (xs : List Int) (s : ByteArray) (w : World) (h : Ints w a n cap xs) (hn : n ≤ 1048576) (hs : s.size ≤ maxLen) :
    Calls Try.prog 15 #[.slice a n cap, .string s] w fun e w' => e = .returned (.bool (stripB xs s)) ∧ w = w' := by
  have H1 := spec_l2Lengths a n cap xs w h hn
  have H2 := Lib.hid (spec_FoldsValid s ((n : Int) - 1) w hs)
  have hl := h.length
  cases hv : lengthsB xs with
  | true =>
    have hc : stripB xs s = foldsValidB s ((n : Int) - 1) := by unfold stripB; rw [hv, hl]; rfl
    rw [hv] at H1
    have H1 := Lib.hid H1
    have HC := Lib.hid hc
    have hm := h.cap_max
    have hle := h.le_cap
    clear hc hv hl
    go_enter Try.func15, Try.ntmps15
    go_wp2_with (first | (go_at_call 28; refine H1.out.mono ?_; rintro e w' ⟨rfl, rfl⟩) | (go_at_call 29; refine H2.out.mono ?_; rintro e w' ⟨rfl, rfl⟩))
    go_ret
    exact ⟨ret_bool HC.out.symm, rfl⟩
  | false =>
    have hc : stripB xs s = false := by unfold stripB; rw [hv]; rfl
    rw [hv] at H1
    have H1 := Lib.hid H1
    have HC := Lib.hid hc
    clear hc hv hl
    go_enter Try.func15, Try.ntmps15
    go_wp2_with (go_at_call 28; refine H1.out.mono ?_; rintro e w' ⟨rfl, rfl⟩)
    go_ret
    exact ⟨ret_bool HC.out.symm, rfl⟩

theorem impl_StripValid (a : Option Addr) (n cap : Nat) (xs : List Int) (s : ByteArray) (w : World) (h : Ints w a n cap xs) (hs : s.size ≤ maxLen) :
    Calls Try.prog 12 #[.slice a n cap, .string s] w fun e w' => e = .returned (.bool (stripB xs s)) ∧ w = w' := by
  have H1 := impl_lengthsValid a n cap xs w h
  have H2 := Lib.hid (impl_FoldsValid s ((n : Int) - 1) w hs)
  have hl := h.length
  cases hv : lengthsB xs with
  | true =>
    have hc : stripB xs s = foldsValidB s ((n : Int) - 1) := by unfold stripB; rw [hv, hl]; rfl
    rw [hv] at H1
    have H1 := Lib.hid H1
    have HC := Lib.hid hc
    have hm := h.cap_max
    have hle := h.le_cap
    clear hc hv hl
    go_enter Try.func12, Try.ntmps12
    go_wp2_with (first | (go_at_call 22; refine H1.out.mono ?_; rintro e w' ⟨rfl, rfl⟩) | (go_at_call 23; refine H2.out.mono ?_; rintro e w' ⟨rfl, rfl⟩))
    go_ret
    exact ⟨ret_bool HC.out.symm, rfl⟩
  | false =>
    have hc : stripB xs s = false := by unfold stripB; rw [hv]; rfl
    rw [hv] at H1
    have H1 := Lib.hid H1
    have HC := Lib.hid hc
    clear hc hv hl
    go_enter Try.func12, Try.ntmps12
    go_wp2_with (go_at_call 22; refine H1.out.mono ?_; rintro e w' ⟨rfl, rfl⟩)
    go_ret
    exact ⟨ret_bool HC.out.symm, rfl⟩

end Go.Proofs.Ytahbflbhkalehaa
