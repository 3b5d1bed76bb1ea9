/-
  What StripWide, l2Text and StripBack compute, in the reference and in the program, by a walk through each.
-/
import Derived.Test.YtcdgnbhmijeeiaaStrip2
import Derived.Test.YtcdgnbhmijeeiaaBack
import Derived.Test.YtcdgnbhmijeeiaaBytes
import Derived.RegionTactic
namespace Go.Proofs.Ytcdgnbhmijeeiaa
open Go.RowKit

theorem go_min (x y : Int) : (if y < x then y else x) = min x y := by omega
theorem go_max (x y : Int) : (if x < y then y else x) = max x y := by omega
theorem least_step {ys : List Int} {s : Int} {k n : Nat} (h : ys.length = n) (hlt : k < n) : leastTo s (ys.take (k + 1)) = min (leastTo s (ys.take k)) (ys[k]?.getD 0) := by
  rw [take_snocI ys k (by omega), leastTo_snoc]
theorem most_step {ys : List Int} {s : Int} {k n : Nat} (h : ys.length = n) (hlt : k < n) : mostTo s (ys.take (k + 1)) = max (mostTo s (ys.take k)) (ys[k]?.getD 0) := by
  rw [take_snocI ys k (by omega), mostTo_snoc]
theorem wide_bd {xs : List Int} (h : lengthsB xs = true) (k : Nat) : (-6000 ≤ leastTo 0 ((placesL xs).take k) ∧ leastTo 0 ((placesL xs).take k) ≤ 6000) ∧ (-6000 ≤ mostTo 0 ((placesL xs).take k) ∧ mostTo 0 ((placesL xs).take k) ≤ 6000) :=
  ⟨leastTo_bd _ _ (by omega) fun x hx => placesL_bd h x (List.mem_of_mem_take hx), mostTo_bd _ _ (by omega) fun x hx => placesL_bd h x (List.mem_of_mem_take hx)⟩

set_option maxHeartbeats 1000000 in
theorem impl_StripWide (a : Option Addr) (n cap : Nat) (xs : List Int) (w : World) (h : Ints w a n cap xs) :
    Calls Try.prog 39 #[.slice a n cap] w (RVal w (.int .i64 (if lengthsB xs then wideL xs else -1))) := by
  have H1 := impl_StripPlaces a n cap xs w h
  cases hv : lengthsB xs with
  | true =>
    rw [hv] at H1
    have H1 := Lib.hid H1
    have HW := Lib.hid (wide_bd hv)
    have HP := Lib.hid (placesL_length xs)
    have hl6 := (lengthsB_len hv).2
    clear hv
    go_enter Try.func39, Try.ntmps39
    go_wp2_with (go_at_call 37; refine H1.out.mono ?_; rintro e w1 ⟨a1, n1, c1, rfl, o1, b1⟩)
    have H := Lib.hid o1.length
    have hle := o1.ints.le_cap
    have hn7 : n1 ≤ 7 ∧ 0 < n1 := by
      have := H.out
      simp only [if_true] at this
      rw [HP.out] at this
      omega
    obtain ⟨hn7, hn0⟩ := hn7
    simp only [if_true] at o1 H
    obtain ⟨b, off, rfl, hc⟩ := o1.ints.cells (by omega)
    have hc0 := hc 0 hn0
    have h0 : (placesL xs)[0]?.getD 0 = 0 := by obtain ⟨r, hr⟩ := placesL_head xs; rw [hr]; rfl
    rw [h0, Nat.add_zero] at hc0
    have HC := Lib.hid hc
    clear hc h0
    go_quiet (fail)
    go_wp2
    go_loop [5, 6, 24] (fun lo hi i => ∃ k : Nat, k ≤ n1 ∧ i = .int .i64 k ∧ lo = .int .i64 (leastTo 0 ((placesL xs).take k)) ∧ hi = .int .i64 (mostTo 0 ((placesL xs).take k))) (fun _ _ i => n1 - (intOf i).toNat)
    case atStart => exact ⟨0, Nat.zero_le _, rfl, rfl, rfl⟩
    case round =>
      obtain ⟨k, hk, rfl, rfl, rfl⟩ := hrel
      obtain ⟨hw1, hw2⟩ := HW.out k
      by_cases hlt : k < n1
      · have hck := HC.out k hlt
        have HS1 := Lib.hid (least_step (s := 0) H.out hlt)
        have HS2 := Lib.hid (most_step (s := 0) H.out hlt)
        go_wp2
        go_round
        case rel => exact ⟨k + 1, by omega, by go_num, by rw [HS1.out, ← go_min], by rw [HS2.out, ← go_max]⟩
        case measure => simp [intOf]; omega
      · rw [take_allI (placesL xs) k (by rw [H.out]; omega)] at hw1 hw2 ⊢
        go_wp2
        go_ret
        exact ⟨rfl, below_drewN b1 _⟩
  | false =>
    rw [hv] at H1
    have H1 := Lib.hid H1
    clear hv
    go_enter Try.func39, Try.ntmps39
    go_wp2_with (go_at_call 37; refine H1.out.mono ?_; rintro e w1 ⟨a1, n1, c1, rfl, o1, b1⟩)
    go_ret
    exact ⟨rfl, b1⟩

end Go.Proofs.Ytcdgnbhmijeeiaa
