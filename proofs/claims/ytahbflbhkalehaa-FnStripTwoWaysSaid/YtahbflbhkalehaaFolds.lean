/-
  What spec.FoldsValid and impl.FoldsValid compute, by a walk through each.
-/
import Derived.Test.YtahbflbhkalehaaChecked
import Derived.Test.YtahbflbhkalehaaPlain
import Derived.WalkLawsBesides
import Derived.Outline
namespace Go.Proofs.Ytahbflbhkalehaa
open Go.RowKit

set_option maxHeartbeats 400000 in
theorem impl_FoldsValid (s : ByteArray) (n : Int) (w : World) (hs : s.size ≤ maxLen) :
    Calls Try.prog 23 #[.string s, .int .i64 n] w fun e w' => e = .returned (.bool (foldsValidB s n)) ∧ w = w' := by
  unfold maxLen at hs
  by_cases h0 : n < 0
  · go_enter Try.func23, Try.ntmps23
    go_wp2
    go_ret
    exact ⟨ret_bool (by unfold foldsValidB; simp; omega), rfl⟩
  · by_cases h1 : (s.size : Int) = n
    · subst h1
      go_enter Try.func23, Try.ntmps23
      go_wp2
      go_loop [5] (fun i => ∃ k : Nat, k ≤ s.size ∧ i = .int .i64 k ∧ Hid ((s.data.toList.take k).all isMV = true)) (fun i => s.size - (intOf i).toNat)
      case atStart => exact ⟨0, Nat.zero_le _, rfl, rfl⟩
      case round =>
        obtain ⟨k, hk, rfl, HA⟩ := hrel
        by_cases hlt : k < s.size
        · go_wp2
          · go_round
            case rel => exact ⟨k + 1, by omega, by go_num, all_snoc s k hlt HA.out (isMV_true (by omega))⟩
            case measure => simp [intOf]; omega
          · have hv : (↑s[k].toNat != (77 : Int)) = true ∧ (↑s[k].toNat != (86 : Int)) = true := by assumption
            go_ret
            exact ⟨ret_bool (by unfold foldsValidB; rw [all_not s k hlt (isMV_no hv)]; simp), rfl⟩
          · have hv : (↑s[k].toNat != (77 : Int)) = false ∨ (↑s[k].toNat != (86 : Int)) = false := by assumption
            go_round
            case rel => exact ⟨k + 1, by omega, by go_num, all_snoc s k hlt HA.out (isMV_yes hv)⟩
            case measure => simp [intOf]; omega
        · go_wp2
          go_ret
          exact ⟨ret_bool (by unfold foldsValidB; rw [← take_all s k (by omega), HA.out]; simp), rfl⟩
    · have h2 : ((s.size : Int) != n) = true := by rw [bne_iff_ne]; exact h1
      go_enter Try.func23, Try.ntmps23
      go_wp2
      go_ret
      exact ⟨ret_bool (by unfold foldsValidB; simp [h1]), rfl⟩

set_option maxHeartbeats 400000 in
theorem spec_FoldsValid (s : ByteArray) (n : Int) (w : World) (hs : s.size ≤ maxLen) :
    Calls Try.prog 29 #[.string s, .int .i64 n] w fun e w' => e = .returned (.bool (foldsValidB s n)) ∧ w = w' := by
  unfold maxLen at hs
  go_enter Try.func29, Try.ntmps29
  go_wp2
  go_loop [5] (fun i => ∃ k : Nat, k ≤ s.size ∧ i = .int .i64 k ∧ Hid ((s.data.toList.take k).all isMV = true)) (fun i => s.size - (intOf i).toNat)
  case atStart => exact ⟨0, Nat.zero_le _, rfl, rfl⟩
  case round =>
    obtain ⟨k, hk, rfl, HA⟩ := hrel
    by_cases hlt : k < s.size
    · go_wp2
      · go_round
        case rel => exact ⟨k + 1, by omega, by go_num, all_snoc s k hlt HA.out (isMV_true (by omega))⟩
        case measure => simp [intOf]; omega
      · have hv : (↑s[k].toNat != (77 : Int)) = true ∧ (↑s[k].toNat != (86 : Int)) = true := by assumption
        go_ret
        exact ⟨ret_bool (by unfold foldsValidB; rw [all_not s k hlt (isMV_no hv)]; simp), rfl⟩
      · have hv : (↑s[k].toNat != (77 : Int)) = false ∨ (↑s[k].toNat != (86 : Int)) = false := by assumption
        go_round
        case rel => exact ⟨k + 1, by omega, by go_num, all_snoc s k hlt HA.out (isMV_yes hv)⟩
        case measure => simp [intOf]; omega
    · go_wp2
      go_ret
      exact ⟨ret_bool (by unfold foldsValidB; rw [← take_all s k (by omega), HA.out]; simp [beq_dec]), rfl⟩

end Go.Proofs.Ytahbflbhkalehaa
