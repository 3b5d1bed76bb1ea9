/-
  What placesOf, StripPlaces, StripWide compute, in the reference and in the program, by a walk through each.
-/
import Derived.Test.YtahbflbhkalehaaStrip
import Derived.Test.YtahbflbhkalehaaMem3
namespace Go.Proofs.Ytahbflbhkalehaa
open Go.RowKit

theorem places_step {xs : List Int} {k n : Nat} (h : xs.length = n) (hlt : k < n) (hp : k % 2 = 0) : alt (xs.take (k + 1)) = alt (xs.take k) + xs[k]?.getD 0 := by
  rw [alt_take xs k (by omega), if_pos hp]
theorem places_step' {xs : List Int} {k n : Nat} (h : xs.length = n) (hlt : k < n) (hp : ¬ k % 2 = 0) : alt (xs.take (k + 1)) = alt (xs.take k) - xs[k]?.getD 0 := by
  rw [alt_take xs k (by omega), if_neg hp]; omega

set_option maxHeartbeats 1000000 in
theorem impl_placesOf (a : Option Addr) (n cap : Nat) (xs : List Int) (w : World) (h : Ints w a n cap xs) (hn : n ≤ 6) (hin : allIn 1 1000 xs) :
    Calls Try.prog 24 #[.slice a n cap] w (RInts w (placesL xs)) := by
  have H := Lib.hid h.length
  have HI := Lib.hid hin
  clear hin
  have hle := h.le_cap
  go_enter Try.func24, Try.ntmps24
  go_wp2_with (first | (at_make; refine wpList_make_cap tyInts rfl _ _ rfl w.heap.size _ (n + 1) rfl rfl (by omega) (by omega) (Nat.le_refl _) ?_; intro w1 o1 g1; have b1 : Below w.heap.size w w1 := (Below.refl _ _).grown g1 (Nat.le_refl _) (by simp); clear g1) | (at_builtin; (refine wpList_append_int tyInts rfl (.tmp 11) (.tmp 13) rfl w.heap.size _ 0 _ _ rfl (o1.below ((Below.refl _ _).alloc (Nat.le_refl _) _)) w1.heap.size 0 rfl (by simp) (by omega) (by have := b1.size; simp; omega) ?_); intro A2 c2 w2 o2 g2 e2; have b2 := Below.appended (b1.alloc b1.size _) (by have := b1.size; simp; omega) g2 o1.base_le; clear g2 e2))
  go_loopw [3, 4, 17] (fun v p i wr => ∃ (k : Nat) (A : Option Addr) (c : Nat), k ≤ n ∧ i = .int .i64 k ∧ p = .int .i64 (alt (xs.take k)) ∧ v = .slice A (k + 1) c ∧ OwnI wr w.heap.size A (k + 1) c (placesTo xs k) ∧ Below w.heap.size w wr) (fun _ _ i _ => n - (intOf i).toNat)
  case atStart => exact ⟨0, _, _, Nat.zero_le _, rfl, rfl, rfl, o2, b2⟩
  case round =>
    obtain ⟨k, A, c, hk, rfl, rfl, rfl, HO, hB⟩ := hrel
    by_cases hlt : k < n
    · obtain ⟨b, off, rfl, hc⟩ := (h.below hB).cells (by omega)
      have hck := hc k hlt
      clear hc
      have hx := allIn_get HI.out k (by rw [H.out]; exact hlt)
      have hs := alt_take_bd HI.out k
      by_cases hp : k % 2 = 0
      · have HS := Lib.hid (places_step H.out hlt hp)
        go_wp2_with (at_builtin; (refine wpList_append_int tyInts rfl (.tmp 31) (.tmp 33) rfl w.heap.size A (k + 1) c _ rfl (HO.below ((Below.refl _ _).alloc (Nat.le_refl _) _)) wr.heap.size (alt (xs.take k) + xs[k]?.getD 0) rfl (by simp) (by omega) (by have := hB.size; simp; omega) ?_); intro A2 c2 w2 o2 g2 e2; have b2 := Below.appended (hB.alloc hB.size _) (by have := hB.size; simp; omega) g2 HO.base_le; clear g2 e2)
        go_roundw
        case rel => exact ⟨k + 1, A2, c2, by omega, by go_num, by rw [HS.out], rfl, by rw [placesTo_succ, HS.out]; exact o2, b2⟩
        case measure => simp [intOf]; omega
      · have HS := Lib.hid (places_step' H.out hlt hp)
        go_wp2_with (at_builtin; (refine wpList_append_int tyInts rfl (.tmp 31) (.tmp 33) rfl w.heap.size A (k + 1) c _ rfl (HO.below ((Below.refl _ _).alloc (Nat.le_refl _) _)) wr.heap.size (alt (xs.take k) - xs[k]?.getD 0) rfl (by simp) (by omega) (by have := hB.size; simp; omega) ?_); intro A2 c2 w2 o2 g2 e2; have b2 := Below.appended (hB.alloc hB.size _) (by have := hB.size; simp; omega) g2 HO.base_le; clear g2 e2)
        go_roundw
        case rel => exact ⟨k + 1, A2, c2, by omega, by go_num, by rw [HS.out], rfl, by rw [placesTo_succ, HS.out]; exact o2, b2⟩
        case measure => simp [intOf]; omega
    · go_wp2
      go_ret
      refine ⟨_, _, _, rfl, ?_, hB⟩
      rwa [placesTo_all xs k (by rw [H.out]; omega)] at HO

set_option maxHeartbeats 1000000 in
theorem spec_l2Places (a : Option Addr) (n cap : Nat) (xs : List Int) (w : World) (h : Ints w a n cap xs) (hn : n ≤ 6) (hin : allIn 1 1000 xs) :
    Calls Try.prog 47 #[.slice a n cap] w (RInts w (placesL xs)) := by
  have H := Lib.hid h.length
  have HI := Lib.hid hin
  clear hin
  have hle := h.le_cap
  go_enter Try.func47, Try.ntmps47
  go_wp2
  go_loopw [3, 4] (fun v i wr => ∃ (k : Nat) (A : Option Addr) (c : Nat), k ≤ n ∧ i = .int .i64 k ∧ v = .slice A (k + 1) c ∧ OwnI wr w.heap.size A (k + 1) c (placesTo xs k) ∧ Below w.heap.size w wr) (fun _ i _ => n - (intOf i).toNat)
  case atStart => exact ⟨0, _, _, Nat.zero_le _, rfl, rfl, World.ownsRow_lit (size := 1) w #[.int .i64 0] 1 (Nat.le_refl _) (by unfold maxLen; omega) rfl, (Below.refl _ _).alloc (Nat.le_refl _) _⟩
  case round =>
    obtain ⟨k, A, c, hk, rfl, rfl, HO, hB⟩ := hrel
    by_cases hlt : k < n
    · obtain ⟨b, off, rfl, hc⟩ := (h.below hB).cells (by omega)
      have hck := hc k hlt
      clear hc
      rcases Own.form HO with ⟨_, h0, _⟩ | ⟨g, rfl, hgb, hgl⟩
      · exact absurd h0 (by omega)
      have hgk := HO.cell (j := k) (by omega)
      rw [placesTo_get xs k k (Nat.le_refl _)] at hgk
      have hx := allIn_get HI.out k (by rw [H.out]; exact hlt)
      have hs := alt_take_bd HI.out k
      have q1 : k + 1 ≤ 4000000 := by omega
      have q2 : w.heap.size ≤ wr.heap.size + 1 := by have := hB.size; omega
      have hk1 : (k : Int) < (k : Int) + 1 := by omega
      by_cases hp : k % 2 = 0
      · have HS := Lib.hid (places_step H.out hlt hp)
        go_wp2
        have hw : IntKind.i64.wrap (alt (xs.take k) + xs[k]?.getD 0) = alt (xs.take k) + xs[k]?.getD 0 := IntWalk.i64_in _ (by omega)
        go_region_law (refine step_append_int tyInts rfl (.tmp 15) (.tmp 25) rfl w.heap.size (some ⟨g, 0, none⟩) (k + 1) c _ (by simp [Act.eval]) (HO.below (((Below.refl _ _).alloc (Nat.le_refl _) _).drew)) wr.heap.size (alt (xs.take k) + xs[k]?.getD 0) (by simp [Act.eval]) (by simp) q1 (by simpa using q2) ?_; intro A2 c2 w2 o2 g2 e2; have b2 := Below.appended ((hB.alloc hB.size _).drew) (by simpa using q2) g2 HO.base_le; clear g2 e2)
        all_goals
          clear hw
          go_wp2
          go_roundw
          case rel => exact ⟨k + 1, A2, c2, by omega, by go_num, rfl, by rw [placesTo_succ, HS.out]; exact o2, b2⟩
          case measure => simp [intOf]; omega
      · have HS := Lib.hid (places_step' H.out hlt hp)
        go_wp2
        have hw : IntKind.i64.wrap (alt (xs.take k) - xs[k]?.getD 0) = alt (xs.take k) - xs[k]?.getD 0 := IntWalk.i64_in _ (by omega)
        go_region_law (refine step_append_int tyInts rfl (.tmp 27) (.tmp 37) rfl w.heap.size (some ⟨g, 0, none⟩) (k + 1) c _ (by simp [Act.eval]) (HO.below (((Below.refl _ _).alloc (Nat.le_refl _) _).drew)) wr.heap.size (alt (xs.take k) - xs[k]?.getD 0) (by simp [Act.eval]) (by simp) q1 (by simpa using q2) ?_; intro A2 c2 w2 o2 g2 e2; have b2 := Below.appended ((hB.alloc hB.size _).drew) (by simpa using q2) g2 HO.base_le; clear g2 e2)
        all_goals
          clear hw
          go_wp2
          go_roundw
          case rel => exact ⟨k + 1, A2, c2, by omega, by go_num, rfl, by rw [placesTo_succ, HS.out]; exact o2, b2⟩
          case measure => simp [intOf]; omega
    · go_wp2
      go_ret
      refine ⟨_, _, _, rfl, ?_, hB⟩
      rwa [placesTo_all xs k (by rw [H.out]; omega)] at HO

end Go.Proofs.Ytahbflbhkalehaa
