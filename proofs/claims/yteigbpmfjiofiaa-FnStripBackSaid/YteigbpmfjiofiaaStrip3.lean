/-
  What StripWide, l2Text and StripBack compute, in the reference and in the program, by a walk through each.
-/
import Derived.Test.YteigbpmfjiofiaaStrip2
import Derived.Test.YteigbpmfjiofiaaBack
import Derived.Test.YteigbpmfjiofiaaBytes
import Derived.RegionTactic
namespace Go.Proofs.Yteigbpmfjiofiaa
open Go.RowKit

theorem go_min (x y : Int) : (if y < x then y else x) = min x y := by omega
theorem go_max (x y : Int) : (if x < y then y else x) = max x y := by omega
theorem least_step {ys : List Int} {s : Int} {k n : Nat} (h : ys.length = n) (hlt : k < n) : leastTo s (ys.take (k + 1)) = min (leastTo s (ys.take k)) (ys[k]?.getD 0) := by
  rw [take_snocI ys k (by omega), leastTo_snoc]
theorem most_step {ys : List Int} {s : Int} {k n : Nat} (h : ys.length = n) (hlt : k < n) : mostTo s (ys.take (k + 1)) = max (mostTo s (ys.take k)) (ys[k]?.getD 0) := by
  rw [take_snocI ys k (by omega), mostTo_snoc]
theorem wide_bd {xs : List Int} (h : lengthsB xs = true) (k : Nat) : (-6000 ≤ leastTo 0 ((placesL xs).take k) ∧ leastTo 0 ((placesL xs).take k) ≤ 6000) ∧ (-6000 ≤ mostTo 0 ((placesL xs).take k) ∧ mostTo 0 ((placesL xs).take k) ≤ 6000) :=
  ⟨leastTo_bd _ _ (by omega) fun x hx => placesL_bd h x (List.mem_of_mem_take hx), mostTo_bd _ _ (by omega) fun x hx => placesL_bd h x (List.mem_of_mem_take hx)⟩

set_option maxHeartbeats 400000 in
theorem spec_l2Text (s : ByteArray) (w : World) (hs : s.size ≤ 1048576) :
    Calls Try.prog 61 #[.string s] w fun e w' => e = .returned (.string (revS s)) ∧ w = w' := by
  go_enter Try.func61, Try.ntmps61
  go_wp2
  go_loop [3, 4] (fun t i => ∃ j : Nat, j ≤ s.size ∧ i = .int .i64 ((s.size : Int) - 1 - j) ∧ t = .string (revTo s j)) (fun _ i => (intOf i + 1).toNat)
  case atStart => exact ⟨0, Nat.zero_le _, by go_num, by rw [revTo_zero]; rfl⟩
  case round =>
    obtain ⟨j, hj, rfl, rfl⟩ := hrel
    have hz : (revTo s j).size ≤ j := by rw [revTo_size s j hj]; exact Nat.le_refl _
    by_cases hlt : j < s.size
    · have HS := Lib.hid (revTo_succ s j hlt)
      have HE := Lib.hid (extract_one s (s.size - 1 - j) (by omega))
      go_wp2
      go_round
      case rel => exact ⟨j + 1, by omega, by go_num, by rw [HS.out, ← HE.out]⟩
      case measure => simp [intOf]; omega
    · go_wp2
      go_ret
      exact ⟨ret_str (revTo_all s j (by omega)), rfl⟩

end Go.Proofs.Yteigbpmfjiofiaa
