/-
  What AnglesCloses, AnglesTurn and AnglesBack compute, in the reference and in the program, by a walk through each.
-/
import Derived.Test.YteigbpmfjiofiaaAngles
import Derived.Test.YteigbpmfjiofiaaMem2
import Derived.WalkSpells
namespace Go.Proofs.Yteigbpmfjiofiaa
open Go.RowKit

set_option maxHeartbeats 400000 in
theorem spec_l1Alternate (a : Option Addr) (n cap : Nat) (xs : List Int) (w : World) (h : Ints w a n cap xs) (hn : n ≤ 1048576) (hin : allIn 1 1000 xs) :
    Calls Try.prog 64 #[.slice a n cap] w fun e w' => e = .returned (.int .i64 (alt xs)) ∧ w = w' := by
  have H := Lib.hid h.length
  have HI := Lib.hid hin
  clear hin
  have hle := h.le_cap
  go_enter Try.func64, Try.ntmps64
  go_wp2
  go_loop [3, 4] (fun t i => ∃ k : Nat, k ≤ n ∧ i = .int .i64 k ∧ t = .int .i64 (alt (xs.take k))) (fun _ i => n - (intOf i).toNat)
  case atStart => exact ⟨0, Nat.zero_le _, rfl, rfl⟩
  case round =>
    obtain ⟨k, hk, rfl, rfl⟩ := hrel
    by_cases hlt : k < n
    · obtain ⟨b, off, rfl, hc⟩ := h.cells (by omega)
      have hck := hc k hlt
      clear hc
      have hx := allIn_get HI.out k (by rw [H.out]; exact hlt)
      have hs := alt_take_bd HI.out k
      have HS := Lib.hid (alt_take xs k (by rw [H.out]; exact hlt))
      by_cases hp : k % 2 = 0
      · go_wp2
        go_round
        case rel => exact ⟨k + 1, by omega, by go_num, by rw [HS.out, if_pos hp]⟩
        case measure => simp [intOf]; omega
      · go_wp2
        go_round
        case rel => exact ⟨k + 1, by omega, by go_num, by rw [HS.out, if_neg hp]; go_num⟩
        case measure => simp [intOf]; omega
    · go_wp2
      go_ret
      exact ⟨ret_int (by rw [take_allI xs k (by rw [H.out]; omega)]), rfl⟩

set_option maxHeartbeats 400000 in
theorem impl_balanced (a : Option Addr) (n cap : Nat) (xs : List Int) (w : World) (h : Ints w a n cap xs) (hn : n ≤ 1048576) (hin : allIn 1 1000 xs) :
    Calls Try.prog 72 #[.slice a n cap] w fun e w' => e = .returned (.bool (alt xs == 0)) ∧ w = w' := by
  have H := Lib.hid h.length
  have HI := Lib.hid hin
  clear hin
  have hle := h.le_cap
  go_enter Try.func72, Try.ntmps72
  go_wp2
  go_loop [3, 8] (fun t i => ∃ k : Nat, k ≤ n ∧ i = .int .i64 k ∧ t = .int .i64 (alt (xs.take k))) (fun _ i => n - (intOf i).toNat)
  case atStart => exact ⟨0, Nat.zero_le _, rfl, rfl⟩
  case round =>
    obtain ⟨k, hk, rfl, rfl⟩ := hrel
    by_cases hlt : k < n
    · obtain ⟨b, off, rfl, hc⟩ := h.cells (by omega)
      have hck := hc k hlt
      clear hc
      have hx := allIn_get HI.out k (by rw [H.out]; exact hlt)
      have hs := alt_take_bd HI.out k
      have HS := Lib.hid (alt_take xs k (by rw [H.out]; exact hlt))
      by_cases hp : k % 2 = 0
      · go_wp2
        go_round
        case rel => exact ⟨k + 1, by omega, by go_num, by rw [HS.out, if_pos hp]⟩
        case measure => simp [intOf]; omega
      · go_wp2
        go_round
        case rel => exact ⟨k + 1, by omega, by go_num, by rw [HS.out, if_neg hp]; go_num⟩
        case measure => simp [intOf]; omega
    · go_wp2
      go_ret
      exact ⟨ret_bool (by rw [take_allI xs k (by rw [H.out]; omega)]), rfl⟩

/-- What AnglesCloses answers. -/
def closesB (xs : List Int) : Bool := anglesB xs && (alt xs == 0)
theorem anglesB_in {xs : List Int} (h : anglesB xs = true) : allIn 1 1000 xs := fun x hx => by
  have := (anglesB_iff xs).1 h
  have := this.2.2.2.1 x hx
  omega
theorem anglesB_len {xs : List Int} (h : anglesB xs = true) : 2 ≤ xs.length ∧ xs.length ≤ 10 ∧ xs.length % 2 = 0 := by
  have := (anglesB_iff xs).1 h
  exact ⟨this.1, this.2.1, this.2.2.1⟩

end Go.Proofs.Yteigbpmfjiofiaa
