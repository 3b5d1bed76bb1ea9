/-
  What FoldsBalance and FoldsSwap compute, in the reference and in the program, by a walk through each.
-/
import Derived.Test.YteigbpmfjiofiaaHelp
import Derived.Test.YteigbpmfjiofiaaPlainF
import Derived.WalkSpells
import Derived.Test.YteigbpmfjiofiaaBytes
namespace Go.Proofs.Yteigbpmfjiofiaa
open Go.RowKit

/-- What a call returns that hands back a string. -/
def RStr (w : World) (s : ByteArray) (e : Ending) (w' : World) : Prop := e = .returned (.string s) ∧ Below w.heap.size w w'

set_option maxHeartbeats 400000 in
theorem impl_FoldsSwap (s : ByteArray) (w : World) (hs : s.size ≤ maxLen) :
    Calls Try.prog 32 #[.string s] w (RStr w (swapS s)) := by
  unfold maxLen at hs
  go_enter Try.func32, Try.ntmps32
  go_wp2_with (refine wpList_to_bytes rfl _ _ _ 5 rfl Try.underlying9 Try.underlying31 Try.underlying5 s rfl ?_; intro cap w1 hcap hrow hB)
  go_loopw [10] (fun i wr => ∃ k : Nat, k ≤ s.size ∧ i = .int .i64 k ∧ RowB wr w.heap.size s.size (mixTo s k) ∧ Below w.heap.size w wr) (fun i _ => s.size - (intOf i).toNat)
  case atStart => exact ⟨0, Nat.zero_le _, rfl, by rw [mixTo_zero]; exact hrow, hB⟩
  case round =>
    obtain ⟨k, hk, rfl, HR, hBr⟩ := hrel
    by_cases hlt : k < s.size
    · have hck := HR.cell k hlt
      have hfk := HR.free k hlt
      rw [mixTo_get s k hlt] at hck
      by_cases h1 : (s[k].toNat : Int) = 77
      · go_wp2
        go_roundw
        case rel => exact ⟨k + 1, by omega, by go_num, by have := HR.stored k ((swp s[k]).toNat : Int); rw [mixTo_set s k hlt] at this; rw [swp_M h1] at this; exact this, hBr.setCell (p := ⟨w.heap.size, k, none⟩) (Nat.le_refl _) _⟩
        case measure => simp [intOf]; omega
      · by_cases h2 : (s[k].toNat : Int) = 86
        · go_wp2
          go_roundw
          case rel => exact ⟨k + 1, by omega, by go_num, by have := HR.stored k ((swp s[k]).toNat : Int); rw [mixTo_set s k hlt] at this; rw [swp_V h2] at this; exact this, hBr.setCell (p := ⟨w.heap.size, k, none⟩) (Nat.le_refl _) _⟩
          case measure => simp [intOf]; omega
        · go_wp2
          go_roundw
          case rel => exact ⟨k + 1, by omega, by go_num, by rw [← mixTo_same s k hlt (swp_O h1 h2)]; exact HR, hBr⟩
          case measure => simp [intOf]; omega
    · go_wp2_with (refine wpList_to_string rfl _ _ _ 5 rfl Try.underlying31 Try.underlying9 Try.underlying5 w.heap.size s.size cap _ rfl HR ?_)
      go_ret
      exact ⟨ret_str (mixTo_all s k (by omega)), hBr⟩

end Go.Proofs.Yteigbpmfjiofiaa
