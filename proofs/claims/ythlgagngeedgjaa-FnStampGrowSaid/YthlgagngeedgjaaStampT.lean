/-
  What StampOver, StampBack and StampTurn compute, in the reference and in the program, by a walk through each.
-/
import Derived.Test.YthlgagngeedgjaaStampS
import Derived.Test.YthlgagngeedgjaaBack
import Derived.Test.YthlgagngeedgjaaPlainR
namespace Go.Proofs.Ythlgagngeedgjaa
open Go.RowKit

theorem impl_StampOver_no (a : Option Addr) (n cap : Nat) (xs : List Int) (w : World) (h : Ints w a n cap xs) (hv : possB xs = false) :
    Calls Try.prog 62 #[.slice a n cap] w (RIntsB w [] false) := by
  have H1 := impl_StampPossible a n cap xs w h
  rw [hv] at H1
  have H1 := Lib.hid H1
  clear hv
  go_enter Try.func62, Try.ntmps62
  go_wp2_with (go_at_call 24; refine H1.out.mono ?_; rintro e w1 ⟨rfl, b1⟩)
  go_ret2
  exact ⟨_, _, _, rfl, OwnI.lit0 _ b1.size, b1.alloc b1.size _⟩

theorem impl_StampBack_no (a : Option Addr) (n cap : Nat) (xs : List Int) (w : World) (h : Ints w a n cap xs) (hv : possB xs = false) :
    Calls Try.prog 63 #[.slice a n cap] w (RIntsB w [] false) := by
  have H1 := impl_StampPossible a n cap xs w h
  rw [hv] at H1
  have H1 := Lib.hid H1
  clear hv
  go_enter Try.func63, Try.ntmps63
  go_wp2_with (go_at_call 24; refine H1.out.mono ?_; rintro e w1 ⟨rfl, b1⟩)
  go_ret2
  exact ⟨_, _, _, rfl, OwnI.lit0 _ b1.size, b1.alloc b1.size _⟩

set_option maxHeartbeats 1000000 in
theorem impl_StampOver_yes (a : Option Addr) (n cap : Nat) (xs : List Int) (w : World) (h : Ints w a n cap xs) (hv : possB xs = true) :
    Calls Try.prog 62 #[.slice a n cap] w (RIntsB w xs.reverse true) := by
  have H1 := impl_StampPossible a n cap xs w h
  have hl := possB_len hv
  rw [h.length] at hl
  rw [hv] at H1
  have H1 := Lib.hid H1
  have H := Lib.hid h.length
  have hle := h.le_cap
  clear hv
  go_enter Try.func62, Try.ntmps62
  go_wp2_with (first | (go_at_call 24; refine H1.out.mono ?_; rintro e w1 ⟨rfl, b1⟩) | (at_make; refine wpList_make_ints tyInts rfl _ _ rfl w.heap.size _ _ n rfl rfl rfl rfl (by omega) b1.size ?_; intro w2 hown hg))
  have hB : Below w.heap.size w w2 := b1.grown hg b1.size (by simp)
  have hbs := b1.size
  clear hg
  go_loopw [18] (fun i wr => ∃ k : Nat, k ≤ n ∧ i = .int .i64 k ∧ OwnI wr w.heap.size (some ⟨w1.heap.size, 0, none⟩) n n (List.replicate (n - k) 0 ++ (xs.take k).reverse) ∧ Below w.heap.size w wr) (fun i _ => n - (intOf i).toNat)
  case atStart => exact ⟨0, Nat.zero_le _, rfl, by simpa using hown, hB⟩
  case round =>
    obtain ⟨k, hk, rfl, HO, hBr⟩ := hrel
    by_cases hlt : k < n
    · obtain ⟨b, off, rfl, hc⟩ := (h.below hBr).cells (by omega)
      have hck := hc k hlt
      have hgk := HO.cell (j := n - 1 - k) (by omega)
      have hfk := HO.frozen (n - 1 - k)
      clear hc
      go_wp2
      go_roundw
      case rel => exact ⟨k + 1, by omega, by go_num, by have := HO.stored (n - 1 - k) (xs[k]?.getD 0); rwa [rev_set xs k n H.out hlt] at this, hBr.setCell (p := ⟨w1.heap.size, n - 1 - k, none⟩) hbs _⟩
      case measure => simp [intOf]; omega
    · go_wp2
      go_ret2
      refine ⟨_, _, _, rfl, ?_, hBr⟩
      rwa [show n - k = 0 by omega, List.take_of_length_le (by rw [H.out]; omega), List.replicate_zero, List.nil_append] at HO

set_option maxHeartbeats 1000000 in
theorem impl_StampBack_yes (a : Option Addr) (n cap : Nat) (xs : List Int) (w : World) (h : Ints w a n cap xs) (hv : possB xs = true) :
    Calls Try.prog 63 #[.slice a n cap] w (RIntsB w (backL xs) true) := by
  have H1 := impl_StampPossible a n cap xs w h
  have hl := possB_len hv
  have HR := Lib.hid (possB_range hv)
  rw [h.length] at hl
  rw [hv] at H1
  have H1 := Lib.hid H1
  have H := Lib.hid h.length
  have hle := h.le_cap
  clear hv
  go_enter Try.func63, Try.ntmps63
  go_wp2_with (first | (go_at_call 24; refine H1.out.mono ?_; rintro e w1 ⟨rfl, b1⟩) | (at_make; refine wpList_make_ints tyInts rfl _ _ rfl w.heap.size _ _ n rfl rfl rfl rfl (by omega) b1.size ?_; intro w2 hown hg))
  have hB : Below w.heap.size w w2 := b1.grown hg b1.size (by simp)
  have hbs := b1.size
  clear hg
  go_loopw [18] (fun i wr => ∃ k : Nat, k ≤ n ∧ i = .int .i64 k ∧ OwnI wr w.heap.size (some ⟨w1.heap.size, 0, none⟩) n n ((backL xs).take k ++ List.replicate (n - k) 0) ∧ Below w.heap.size w wr) (fun i _ => n - (intOf i).toNat)
  case atStart => exact ⟨0, Nat.zero_le _, rfl, by simpa using hown, hB⟩
  case round =>
    obtain ⟨k, hk, rfl, HO, hBr⟩ := hrel
    by_cases hlt : k < n
    · obtain ⟨b, off, rfl, hc⟩ := (h.below hBr).cells (by omega)
      have hck := hc k hlt
      have hgk := HO.cell hlt
      have hfk := HO.frozen k
      have hrx := HR.out k (by rw [H.out]; exact hlt)
      rw [H.out] at hrx
      have HG : Hid ((backL xs)[k]?.getD 0 = (n : Int) - 1 - xs[k]?.getD 0) := by
        have := backL_get xs k (by rw [H.out]; exact hlt)
        rw [H.out] at this
        exact this
      clear hc
      go_wp2
      go_roundw
      case rel => exact ⟨k + 1, by omega, by go_num, by have t := HO.stored k ((n : Int) - 1 - xs[k]?.getD 0); have e := set_take_drop (backL xs) k n (by rw [backL_length, H.out]) hlt; rw [HG.out] at e; rw [e] at t; exact t, hBr.setCell (p := ⟨w1.heap.size, k, none⟩) hbs _⟩
      case measure => simp [intOf]; omega
    · go_wp2
      go_ret2
      refine ⟨_, _, _, rfl, ?_, hBr⟩
      rwa [show n - k = 0 by omega, List.take_of_length_le (by rw [backL_length, H.out]; omega), List.replicate_zero, List.append_nil] at HO

set_option maxHeartbeats 1000000 in
theorem spec_l3Back (a : Option Addr) (n cap : Nat) (xs : List Int) (w : World) (h : Ints w a n cap xs) (hn : n ≤ 1048576) (hr : ∀ k, k < xs.length → 0 ≤ xs[k]?.getD 0 ∧ xs[k]?.getD 0 < xs.length) :
    Calls Try.prog 59 #[.slice a n cap] w (RInts w (backL xs)) := by
  have H := Lib.hid h.length
  have HR := Lib.hid hr
  have hle := h.le_cap
  clear hr
  go_enter Try.func59, Try.ntmps59
  go_wp2
  go_loopw [3, 4] (fun v i wr => ∃ (k : Nat) (A : Option Addr) (c : Nat), k ≤ n ∧ i = .int .i64 k ∧ v = .slice A k c ∧ OwnI wr w.heap.size A k c ((backL xs).take k) ∧ Below w.heap.size w wr) (fun _ i _ => n - (intOf i).toNat)
  case atStart => exact ⟨0, _, _, Nat.zero_le _, rfl, rfl, OwnI.lit0 w (Nat.le_refl _), (Below.refl _ _).alloc (Nat.le_refl _) _⟩
  case round =>
    obtain ⟨k, A, c, hk, rfl, rfl, HO, hB⟩ := hrel
    by_cases hlt : k < n
    · obtain ⟨b, off, rfl, hc⟩ := (h.below hB).cells (by omega)
      have hck := hc k hlt
      clear hc
      have hrx := HR.out k (by rw [H.out]; exact hlt)
      rw [H.out] at hrx
      have HG : Hid ((backL xs)[k]?.getD 0 = (n : Int) - 1 - xs[k]?.getD 0) := by
        have := backL_get xs k (by rw [H.out]; exact hlt)
        rw [H.out] at this
        exact this
      go_wp2_with (at_builtin; (refine wpList_append_int tyInts rfl _ _ rfl w.heap.size A k c _ rfl (HO.below ((Below.refl _ _).alloc (Nat.le_refl _) _)) wr.heap.size ((n : Int) - 1 - xs[k]?.getD 0) rfl (by simp) (by omega) (by have := hB.size; simp; omega) ?_); intro A2 c2 w2 o2 g2 e2; have b2 := Below.appended (hB.alloc hB.size _) (by have := hB.size; simp; omega) g2 HO.base_le; clear g2 e2)
      go_roundw
      case rel => exact ⟨k + 1, A2, c2, by omega, by go_num, rfl, by rw [take_snocI (backL xs) k (by rw [backL_length, H.out]; exact hlt), HG.out]; exact o2, b2⟩
      case measure => simp [intOf]; omega
    · go_wp2
      go_ret
      refine ⟨_, _, _, rfl, ?_, hB⟩
      rwa [take_allI _ k (by rw [backL_length, H.out]; omega)] at HO

end Go.Proofs.Ythlgagngeedgjaa
