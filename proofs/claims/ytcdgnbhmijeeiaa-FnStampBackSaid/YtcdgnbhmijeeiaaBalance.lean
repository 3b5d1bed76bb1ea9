/-
  What FoldsBalance and FoldsSwap compute, in the reference and in the program, by a walk through each.
-/
import Derived.Test.YtcdgnbhmijeeiaaHelp
import Derived.Test.YtcdgnbhmijeeiaaPlainF
import Derived.WalkSpells
import Derived.Test.YtcdgnbhmijeeiaaBytes
namespace Go.Proofs.Ytcdgnbhmijeeiaa
open Go.RowKit

set_option maxHeartbeats 400000 in
theorem impl_FoldsBalance (s : ByteArray) (w : World) (hs : s.size ≤ maxLen) :
    Calls Try.prog 18 #[.string s] w fun e w' => e = .returned (.int .i64 (bal s.data.toList)) ∧ w = w' := by
  unfold maxLen at hs
  go_enter Try.func18, Try.ntmps18
  go_wp2
  go_loop [3, 4] (fun t i => ∃ k : Nat, k ≤ s.size ∧ i = .int .i64 k ∧ t = .int .i64 (bal (s.data.toList.take k))) (fun _ i => s.size - (intOf i).toNat)
  case atStart => exact ⟨0, Nat.zero_le _, rfl, rfl⟩
  case round =>
    obtain ⟨k, hk, rfl, rfl⟩ := hrel
    have hb := bal_take_bd s.data.toList k
    by_cases hlt : k < s.size
    · have HS := Lib.hid (bal_take s k hlt)
      by_cases h1 : (s[k].toNat : Int) = 77
      · go_wp2
        go_round
        case rel => exact ⟨k + 1, by omega, by go_num, by rw [HS.out, bal1_M h1]⟩
        case measure => simp [intOf]; omega
      · by_cases h2 : (s[k].toNat : Int) = 86
        · go_wp2
          go_round
          case rel => exact ⟨k + 1, by omega, by go_num, by rw [HS.out, bal1_V h2]; go_num⟩
          case measure => simp [intOf]; omega
        · go_wp2
          go_round
          case rel => exact ⟨k + 1, by omega, by go_num, by rw [HS.out, bal1_O h1 h2]; go_num⟩
          case measure => simp [intOf]; omega
    · go_wp2
      go_ret
      exact ⟨ret_int (by rw [take_all s k (by omega)]), rfl⟩

set_option maxHeartbeats 400000 in
theorem spec_FoldsSwap (s : ByteArray) (w : World) (hs : s.size ≤ maxLen) :
    Calls Try.prog 17 #[.string s] w fun e w' => e = .returned (.string (swapS s)) ∧ w = w' := by
  unfold maxLen at hs
  go_enter Try.func17, Try.ntmps17
  go_wp2
  go_loop [3, 4] (fun t i => ∃ k : Nat, k ≤ s.size ∧ i = .int .i64 k ∧ t = .string (swapTo s k)) (fun _ i => s.size - (intOf i).toNat)
  case atStart => exact ⟨0, Nat.zero_le _, rfl, by rw [swapTo_zero]⟩
  case round =>
    obtain ⟨k, hk, rfl, rfl⟩ := hrel
    have hz : (swapTo s k).size ≤ k := by rw [swapTo_size s k hk]; exact Nat.le_refl _
    by_cases hlt : k < s.size
    · have HS := Lib.hid (swapTo_succ s k hlt)
      by_cases h1 : (s[k].toNat : Int) = 77
      · go_wp2
        go_round
        case rel => exact ⟨k + 1, by omega, by go_num, by rw [HS.out, swp_M h1]⟩
        case measure => simp [intOf]; omega
      · by_cases h2 : (s[k].toNat : Int) = 86
        · go_wp2
          go_round
          case rel => exact ⟨k + 1, by omega, by go_num, by rw [HS.out, swp_V h2]⟩
          case measure => simp [intOf]; omega
        · go_wp2
          go_round
          case rel => exact ⟨k + 1, by omega, by go_num, by rw [HS.out, swp_O h1 h2, extract_one s k hlt]⟩
          case measure => simp [intOf]; omega
    · go_wp2
      go_ret
      exact ⟨ret_str (swapTo_all s k (by omega)), rfl⟩

/-- What a call returns that hands back a string. -/
def RStr (w : World) (s : ByteArray) (e : Ending) (w' : World) : Prop := e = .returned (.string s) ∧ Below w.heap.size w w'

set_option maxHeartbeats 400000 in
theorem impl_FoldsSwap (s : ByteArray) (w : World) (hs : s.size ≤ maxLen) :
    Calls Try.prog 16 #[.string s] w (RStr w (swapS s)) := by
  unfold maxLen at hs
  go_enter Try.func16, Try.ntmps16
  go_wp2_with (refine wpList_to_bytes rfl _ _ _ 5 rfl Try.underlying9 Try.underlying22 Try.underlying5 s rfl ?_; intro cap w1 hcap hrow hB)
  go_loopw [10] (fun i wr => ∃ k : Nat, k ≤ s.size ∧ i = .int .i64 k ∧ RowB wr w.heap.size s.size (mixTo s k) ∧ Below w.heap.size w wr) (fun i _ => s.size - (intOf i).toNat)
  case atStart => exact ⟨0, Nat.zero_le _, rfl, by rw [mixTo_zero]; exact hrow, hB⟩
  case round =>
    obtain ⟨k, hk, rfl, HR, hBr⟩ := hrel
    by_cases hlt : k < s.size
    · have hck := HR.cell k hlt
      have hfk := HR.free k hlt
      rw [mixTo_get s k hlt] at hck
      by_cases h1 : (s[k].toNat : Int) = 77
      · go_wp2
        go_roundw
        case rel => exact ⟨k + 1, by omega, by go_num, by have := HR.stored k ((swp s[k]).toNat : Int); rw [mixTo_set s k hlt] at this; rw [swp_M h1] at this; exact this, hBr.setCell (p := ⟨w.heap.size, k, none⟩) (Nat.le_refl _) _⟩
        case measure => simp [intOf]; omega
      · by_cases h2 : (s[k].toNat : Int) = 86
        · go_wp2
          go_roundw
          case rel => exact ⟨k + 1, by omega, by go_num, by have := HR.stored k ((swp s[k]).toNat : Int); rw [mixTo_set s k hlt] at this; rw [swp_V h2] at this; exact this, hBr.setCell (p := ⟨w.heap.size, k, none⟩) (Nat.le_refl _) _⟩
          case measure => simp [intOf]; omega
        · go_wp2
          go_roundw
          case rel => exact ⟨k + 1, by omega, by go_num, by rw [← mixTo_same s k hlt (swp_O h1 h2)]; exact HR, hBr⟩
          case measure => simp [intOf]; omega
    · go_wp2_with (refine wpList_to_string rfl _ _ _ 5 rfl Try.underlying22 Try.underlying9 Try.underlying5 w.heap.size s.size cap _ rfl HR ?_)
      go_ret
      exact ⟨ret_str (mixTo_all s k (by omega)), hBr⟩

end Go.Proofs.Ytcdgnbhmijeeiaa
