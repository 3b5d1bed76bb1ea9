/-
  What StripWide, l2Text and StripBack compute, in the reference and in the program, by a walk through each.
-/
import Derived.Test.YtmbpigakjjfbcaaStrip2
import Derived.Test.YtmbpigakjjfbcaaBack
import Derived.Test.YtmbpigakjjfbcaaBytes
import Derived.RegionTactic
namespace Go.Proofs.Ytmbpigakjjfbcaa
open Go.RowKit

theorem go_min (x y : Int) : (if y < x then y else x) = min x y := by omega
theorem go_max (x y : Int) : (if x < y then y else x) = max x y := by omega
theorem least_step {ys : List Int} {s : Int} {k n : Nat} (h : ys.length = n) (hlt : k < n) : leastTo s (ys.take (k + 1)) = min (leastTo s (ys.take k)) (ys[k]?.getD 0) := by
  rw [take_snocI ys k (by omega), leastTo_snoc]
theorem most_step {ys : List Int} {s : Int} {k n : Nat} (h : ys.length = n) (hlt : k < n) : mostTo s (ys.take (k + 1)) = max (mostTo s (ys.take k)) (ys[k]?.getD 0) := by
  rw [take_snocI ys k (by omega), mostTo_snoc]
theorem wide_bd {xs : List Int} (h : lengthsB xs = true) (k : Nat) : (-6000 ≤ leastTo 0 ((placesL xs).take k) ∧ leastTo 0 ((placesL xs).take k) ≤ 6000) ∧ (-6000 ≤ mostTo 0 ((placesL xs).take k) ∧ mostTo 0 ((placesL xs).take k) ≤ 6000) :=
  ⟨leastTo_bd _ _ (by omega) fun x hx => placesL_bd h x (List.mem_of_mem_take hx), mostTo_bd _ _ (by omega) fun x hx => placesL_bd h x (List.mem_of_mem_take hx)⟩

set_option maxHeartbeats 1000000 in
theorem spec_StripWide (a : Option Addr) (n cap : Nat) (xs : List Int) (w : World) (h : Ints w a n cap xs) (hn : n ≤ 1048576) :
    Calls Try.prog 24 #[.slice a n cap] w (RVal w (.int .i64 (if lengthsB xs then wideL xs else -1))) := by
  have H1 := spec_StripPlaces a n cap xs w h hn
  cases hv : lengthsB xs with
  | true =>
    rw [hv] at H1
    have H1 := Lib.hid H1
    have HW := Lib.hid (wide_bd hv)
    have HP := Lib.hid (placesL_length xs)
    have hl6 := (lengthsB_len hv).2
    have hgb := Lib.hid (fun k hk => placesL_get_bd (xs := xs) hv k hk)
    clear hv
    go_enter Try.func24, Try.ntmps24
    go_wp2_with (go_at_call 20; refine H1.out.mono ?_; rintro e w1 ⟨a1, n1, c1, rfl, o1, b1⟩)
    have H := Lib.hid o1.length
    have hle := o1.ints.le_cap
    have hn7 : n1 ≤ 7 := by
      have := H.out
      simp only [if_true] at this
      rw [HP.out] at this
      omega
    simp only [if_true] at o1 H
    go_loop [5, 6, 7] (fun lo hi i => ∃ k : Nat, k ≤ n1 ∧ i = .int .i64 k ∧ lo = .int .i64 (leastTo 0 ((placesL xs).take k)) ∧ hi = .int .i64 (mostTo 0 ((placesL xs).take k))) (fun _ _ i => n1 - (intOf i).toNat)
    case atStart => exact ⟨0, Nat.zero_le _, rfl, rfl, rfl⟩
    case round =>
      obtain ⟨k, hk, rfl, rfl, rfl⟩ := hrel
      obtain ⟨hw1, hw2⟩ := HW.out k
      by_cases hlt : k < n1
      · obtain ⟨b, off, rfl, hc⟩ := o1.ints.cells (by omega)
        have hck := hc k hlt
        clear hc
        have HS1 := Lib.hid (least_step (s := 0) H.out hlt)
        have HS2 := Lib.hid (most_step (s := 0) H.out hlt)
        go_wp2
        go_round
        case rel => exact ⟨k + 1, by omega, by go_num, by rw [HS1.out, ← go_min], by rw [HS2.out, ← go_max]⟩
        case measure => simp [intOf]; omega
      · rw [take_allI (placesL xs) k (by rw [H.out]; omega)] at hw1 hw2 ⊢
        go_wp2
        go_ret
        exact ⟨rfl, b1⟩
  | false =>
    rw [hv] at H1
    have H1 := Lib.hid H1
    clear hv
    go_enter Try.func24, Try.ntmps24
    go_wp2_with (go_at_call 20; refine H1.out.mono ?_; rintro e w1 ⟨a1, n1, c1, rfl, o1, b1⟩)
    go_ret
    exact ⟨rfl, b1⟩

set_option maxHeartbeats 1000000 in
theorem impl_StripWide (a : Option Addr) (n cap : Nat) (xs : List Int) (w : World) (h : Ints w a n cap xs) :
    Calls Try.prog 25 #[.slice a n cap] w (RVal w (.int .i64 (if lengthsB xs then wideL xs else -1))) := by
  have H1 := impl_StripPlaces a n cap xs w h
  cases hv : lengthsB xs with
  | true =>
    rw [hv] at H1
    have H1 := Lib.hid H1
    have HW := Lib.hid (wide_bd hv)
    have HP := Lib.hid (placesL_length xs)
    have hl6 := (lengthsB_len hv).2
    clear hv
    go_enter Try.func25, Try.ntmps25
    go_wp2_with (go_at_call 21; refine H1.out.mono ?_; rintro e w1 ⟨a1, n1, c1, rfl, o1, b1⟩)
    have H := Lib.hid o1.length
    have hle := o1.ints.le_cap
    have hn7 : n1 ≤ 7 ∧ 0 < n1 := by
      have := H.out
      simp only [if_true] at this
      rw [HP.out] at this
      omega
    obtain ⟨hn7, hn0⟩ := hn7
    simp only [if_true] at o1 H
    obtain ⟨b, off, rfl, hc⟩ := o1.ints.cells (by omega)
    have hc0 := hc 0 hn0
    have h0 : (placesL xs)[0]?.getD 0 = 0 := by obtain ⟨r, hr⟩ := placesL_head xs; rw [hr]; rfl
    rw [h0, Nat.add_zero] at hc0
    have HC := Lib.hid hc
    clear hc h0
    go_quiet (fail)
    go_wp2
    go_loop [5, 6, 24] (fun lo hi i => ∃ k : Nat, k ≤ n1 ∧ i = .int .i64 k ∧ lo = .int .i64 (leastTo 0 ((placesL xs).take k)) ∧ hi = .int .i64 (mostTo 0 ((placesL xs).take k))) (fun _ _ i => n1 - (intOf i).toNat)
    case atStart => exact ⟨0, Nat.zero_le _, rfl, rfl, rfl⟩
    case round =>
      obtain ⟨k, hk, rfl, rfl, rfl⟩ := hrel
      obtain ⟨hw1, hw2⟩ := HW.out k
      by_cases hlt : k < n1
      · have hck := HC.out k hlt
        have HS1 := Lib.hid (least_step (s := 0) H.out hlt)
        have HS2 := Lib.hid (most_step (s := 0) H.out hlt)
        go_wp2
        go_round
        case rel => exact ⟨k + 1, by omega, by go_num, by rw [HS1.out, ← go_min], by rw [HS2.out, ← go_max]⟩
        case measure => simp [intOf]; omega
      · rw [take_allI (placesL xs) k (by rw [H.out]; omega)] at hw1 hw2 ⊢
        go_wp2
        go_ret
        exact ⟨rfl, below_drewN b1 _⟩
  | false =>
    rw [hv] at H1
    have H1 := Lib.hid H1
    clear hv
    go_enter Try.func25, Try.ntmps25
    go_wp2_with (go_at_call 21; refine H1.out.mono ?_; rintro e w1 ⟨a1, n1, c1, rfl, o1, b1⟩)
    go_ret
    exact ⟨rfl, b1⟩

set_option maxHeartbeats 400000 in
theorem spec_l2Text (s : ByteArray) (w : World) (hs : s.size ≤ 1048576) :
    Calls Try.prog 50 #[.string s] w fun e w' => e = .returned (.string (revS s)) ∧ w = w' := by
  go_enter Try.func50, Try.ntmps50
  go_wp2
  go_loop [3, 4] (fun t i => ∃ j : Nat, j ≤ s.size ∧ i = .int .i64 ((s.size : Int) - 1 - j) ∧ t = .string (revTo s j)) (fun _ i => (intOf i + 1).toNat)
  case atStart => exact ⟨0, Nat.zero_le _, by go_num, by rw [revTo_zero]; rfl⟩
  case round =>
    obtain ⟨j, hj, rfl, rfl⟩ := hrel
    have hz : (revTo s j).size ≤ j := by rw [revTo_size s j hj]; exact Nat.le_refl _
    by_cases hlt : j < s.size
    · have HS := Lib.hid (revTo_succ s j hlt)
      have HE := Lib.hid (extract_one s (s.size - 1 - j) (by omega))
      go_wp2
      go_round
      case rel => exact ⟨j + 1, by omega, by go_num, by rw [HS.out, ← HE.out]⟩
      case measure => simp [intOf]; omega
    · go_wp2
      go_ret
      exact ⟨ret_str (revTo_all s j (by omega)), rfl⟩

end Go.Proofs.Ytmbpigakjjfbcaa
