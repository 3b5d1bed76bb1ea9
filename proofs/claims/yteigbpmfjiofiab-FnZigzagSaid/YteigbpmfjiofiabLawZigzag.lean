/-
  The walk through the law on strips that are folded to and fro: it returns true.
-/
import Derived.Test.YteigbpmfjiofiabDraw2
import Derived.Test.YteigbpmfjiofiabLayS
import Derived.Test.YteigbpmfjiofiabLawHelp
import Derived.Test.YteigbpmfjiofiabStrip3
namespace Go.Proofs.Yteigbpmfjiofiab
open Go.RowKit

theorem zigS_odd {k : Nat} (h : k % 2 = 1) : zigS (k + 1 - 1) = zigS (k - 1) ++ ⟨#[86]⟩ := by
  rw [Nat.add_sub_cancel, show k = k - 1 + 1 by omega, zigS_succ, if_pos (by omega), Nat.add_sub_cancel]
theorem zigS_even {k : Nat} (h : k % 2 = 0) (h0 : 0 < k) : zigS (k + 1 - 1) = zigS (k - 1) ++ ⟨#[77]⟩ := by
  rw [Nat.add_sub_cancel, show k = k - 1 + 1 by omega, zigS_succ, if_neg (by omega), Nat.add_sub_cancel]

set_option maxRecDepth 100000 in
set_option maxHeartbeats 4000000 in
theorem law_FnZigzag (w : World) (a : Option Addr) (n cap : Nat) (bs : List Int) (hx : Bytes w a n cap bs) :
    Calls Try.prog 3 #[.slice a n cap] w (RVal w (.bool true)) := by
  have hle := hx.1.le
  have hmx := hx.1.max
  unfold maxLen at hmx
  by_cases hn : n ≤ 1048576
  · have H1 := Lib.hid (spec_DrawStripPlaces a n cap bs w hx)
    go_enter Try.func3, Try.ntmps3
    go_wp2_with fail
    refine H1.out.mono ?_
    rintro e w1 ⟨a1, n1, c1, xs, rfl, i1, hn1, b1⟩
    have hle1 := i1.le_cap
    have HL1 := Lib.hid i1.length
    have P1 := fun (W : World) h1 => impl_StripPlaces a1 n1 c1 xs W h1
    have P2 := fun (W : World) h1 => spec_StripPlaces a1 n1 c1 xs W h1 (by omega)
    cases hv : lengthsB xs with
    | false =>
      rw [hv] at P1 P2
      simp only [Bool.false_eq_true, if_false] at P1 P2
      have P1 := Lib.hid P1
      have P2 := Lib.hid P2
      clear hv
      go_wp2_with fail
      refine (P1.out w1 i1).mono ?_
      rintro e w2 ⟨a2, n2, c2, rfl, o2, b2⟩
      go_wp2_with fail
      refine (P2.out w2 (i1.below b2)).mono ?_
      rintro e w3 ⟨a3, n3, c3, rfl, o3, b3⟩
      go_wp2_with fail
      refine (sameInts_same a2 a3 n2 n3 c2 c3 _ w3 (o2.below b3).ints o3.ints).mono ?_
      rintro e w4 ⟨rfl, b4⟩
      go_wp2_with fail
      refine (sameInts_same a2 a3 n2 n3 c2 c3 _ w4 ((o2.below b3).below b4).ints (o3.below b4).ints).mono ?_
      rintro e w5 ⟨rfl, b5⟩
      go_wp2_with fail
      go_ret
      have B2 := Below.call b1 b1.size b2
      have B3 := Below.call B2 B2.size b3
      have B4 := Below.call B3 B3.size b4
      exact ⟨rfl, Below.call B4 B4.size b5⟩
    | true =>
      rw [hv] at P1 P2
      simp only [if_true] at P1 P2
      have P1 := Lib.hid P1
      have P2 := Lib.hid P2
      have hz := zig_right hv
      have hl6 := lengthsB_len hv
      rw [i1.length] at hl6 hz
      obtain ⟨hl1, hl6⟩ := hl6
      have P3 : Hid (∀ (W : World) (A : Option Addr) (c : Nat), Ints W a1 n1 c1 xs → Ints W A n1 c (upI n1) → Calls Try.prog 11 #[.slice a1 n1 c1, .string (zigS (n1 - 1)), .slice A n1 c] W (RVal W (.bool true))) := fun W A c h1 h2 => by
        have := impl_StripLayers a1 A n1 c1 n1 c xs (upI n1) (zigS (n1 - 1)) W h1 (by rw [zigS_size]; unfold maxLen; omega) h2 (by omega)
        rwa [show layB xs (zigS (n1 - 1)) (upI n1) = strLB xs (zigS (n1 - 1)) (upI n1) from rfl, hz] at this
      have P4 : Hid (∀ (W : World) (A : Option Addr) (m c : Nat), m ≤ 10 → Ints W a1 n1 c1 xs → Ints W A m c (upI n1).reverse → Calls Try.prog 11 #[.slice a1 n1 c1, .string (swapS (zigS (n1 - 1))), .slice A m c] W (RVal W (.bool true))) := fun W A m c hm h1 h2 => by
        have := impl_StripLayers a1 A n1 c1 m c xs (upI n1).reverse (swapS (zigS (n1 - 1))) W h1 (by rw [swapS_size, zigS_size]; unfold maxLen; omega) h2 (by omega)
        rwa [show layB xs (swapS (zigS (n1 - 1))) (upI n1).reverse = strLB xs (swapS (zigS (n1 - 1))) (upI n1).reverse from rfl, lay_over hz] at this
      have HPL := Lib.hid (placesL_length xs)
      clear hv hz
      go_wp2_with fail
      refine (P1.out w1 i1).mono ?_
      rintro e w2 ⟨a2, n2, c2, rfl, o2, b2⟩
      obtain rfl : n1 + 1 = n2 := by rw [← o2.length, HPL.out, HL1.out]
      go_wp2_with fail
      refine (P2.out w2 (i1.below b2)).mono ?_
      rintro e w3 ⟨a3, n3, c3, rfl, o3, b3⟩
      go_wp2_with fail
      refine (sameInts_same a2 a3 (n1 + 1) n3 c2 c3 _ w3 (o2.below b3).ints o3.ints).mono ?_
      rintro e w4 ⟨rfl, b4⟩
      have i4 := ((i1.below b2).below b3).below b4
      have hc2 := o2.ints.le_cap
      have B2 := Below.call b1 b1.size b2
      have B3 := Below.call B2 B2.size b3
      have B4 := Below.call B3 B3.size b4
      clear i1 o2 o3 b2 b3 b4 B2 B3 P1 P2
      go_wp2_with fail
      go_loopw [8, 9, 10] (fun f v i wr => ∃ (k : Nat) (A : Option Addr) (c : Nat), k ≤ n1 ∧ i = .int .i64 k ∧ f = .string (zigS (k - 1)) ∧ v = .slice A k c ∧ OwnI wr w4.heap.size A k c (upI k) ∧ Below w4.heap.size w4 wr) (fun _ _ i _ => n1 - (intOf i).toNat)
      case atStart => exact ⟨0, _, _, Nat.zero_le _, rfl, rfl, rfl, OwnI.lit0 w4 (Nat.le_refl _), (Below.refl _ _).alloc (Nat.le_refl _) _⟩
      case round =>
        obtain ⟨k, A, c, hk, rfl, rfl, rfl, HO, hB⟩ := hrel
        by_cases hlt : k < n1
        · have hzs : (zigS (k - 1)).size ≤ 6 := by rw [zigS_size]; omega
          have HU := Lib.hid (upI_succ' k)
          by_cases k0 : k = 0
          · subst k0
            go_wp2_with (at_builtin; (refine wpList_append_int tyInts rfl (.tmp 54) (.tmp 56) rfl w4.heap.size A _ c _ rfl (HO.below ((Below.refl _ _).alloc (Nat.le_refl _) _)) wr.heap.size 0 rfl (by simp) (by omega) (by have := hB.size; simp; omega) ?_); intro A2 c2 w2 o2 g2 e2; have b2 := Below.appended (hB.alloc hB.size _) (by have := hB.size; simp; omega) g2 HO.base_le; clear g2 e2)
            go_roundw
            case rel => exact ⟨1, A2, c2, by omega, by go_num, rfl, rfl, by rw [HU.out]; exact o2, b2⟩
            case measure => simp [intOf]; omega
          · have hk0 : (0 : Int) < (k : Int) := by omega
            by_cases hp : k % 2 = 0
            · have HS := Lib.hid (zigS_even hp (by omega))
              have hp3 : ((k : Int) % 2 == 1) = false := by rw [beq_eq_false_iff_ne]; omega
              have hp2 : ((k : Int) % 2 == 0) = true := by rw [beq_iff_eq]; omega
              go_wp2_with (at_builtin; (refine wpList_append_int tyInts rfl (.tmp 54) (.tmp 56) rfl w4.heap.size A k c _ rfl (HO.below ((Below.refl _ _).alloc (Nat.le_refl _) _)) wr.heap.size (k : Int) rfl (by simp) (by omega) (by have := hB.size; simp; omega) ?_); intro A2 c2 w2 o2 g2 e2; have b2 := Below.appended (hB.alloc hB.size _) (by have := hB.size; simp; omega) g2 HO.base_le; clear g2 e2)
              go_roundw
              case rel => exact ⟨k + 1, A2, c2, by omega, by go_num, by rw [HS.out], rfl, by rw [HU.out]; exact o2, b2⟩
              case measure => simp [intOf]; omega
            · have HS := Lib.hid (zigS_odd (show k % 2 = 1 by omega))
              have hp1 : k % 2 = 1 := by omega
              have hp2 : ((k : Int) % 2 == 1) = true := by rw [beq_iff_eq]; omega
              have hp3 : ((k : Int) % 2 == 0) = false := by rw [beq_eq_false_iff_ne]; omega
              go_wp2_with (at_builtin; (refine wpList_append_int tyInts rfl (.tmp 54) (.tmp 56) rfl w4.heap.size A k c _ rfl (HO.below ((Below.refl _ _).alloc (Nat.le_refl _) _)) wr.heap.size (k : Int) rfl (by simp) (by omega) (by have := hB.size; simp; omega) ?_); intro A2 c2 w2 o2 g2 e2; have b2 := Below.appended (hB.alloc hB.size _) (by have := hB.size; simp; omega) g2 HO.base_le; clear g2 e2)
              go_roundw
              case rel => exact ⟨k + 1, A2, c2, by omega, by go_num, by rw [HS.out], rfl, by rw [HU.out]; exact o2, b2⟩
              case measure => simp [intOf]; omega
        · obtain rfl : k = n1 := by omega
          have hBr := B4.trans (hB.mono B4.size)
          have i5 := i4.below hB
          have PF : Hid (∀ W : World, Calls Try.prog 12 #[.string (zigS (k - 1))] W (RStr W (swapS (zigS (k - 1))))) := fun W => impl_FoldsSwap _ W (by rw [zigS_size]; unfold maxLen; omega)
          generalize zigS (k - 1) = z at P3 P4 PF ⊢
          have hc5 := HO.ints.le_cap
          have hone : (1 : Int) < (k : Int) + 1 := by omega
          go_wp2_with fail
          refine (P3.out _ _ _ i5 HO.ints).mono ?_
          rintro e w6 ⟨rfl, b6⟩
          have B6 := Below.call hBr hBr.size b6
          go_wp2_with fail
          refine (PF.out _).mono ?_
          rintro e w7 ⟨rfl, b7⟩
          have B7 := Below.call B6 B6.size b7
          go_wp2_with fail
          refine (laws_reversed A k c (upI k) w7 ((HO.below b6).below b7).ints (by omega)).mono ?_
          rintro e w8 ⟨a8, n8, c8, rfl, o8, b8⟩
          have B8 := Below.call B7 B7.size b8
          go_wp2_with fail
          refine (P4.out _ _ _ _ (by rw [← o8.length, List.length_reverse, upI_length]; omega) (((i5.below b6).below b7).below b8) o8.ints).mono ?_
          rintro e w9 ⟨rfl, b9⟩
          go_wp2_with fail
          go_ret
          exact ⟨rfl, Below.call B8 B8.size b9⟩
  · go_enter Try.func3, Try.ntmps3
    go_wp2_with fail
    go_ret
    exact ⟨rfl, Below.refl _ _⟩

end Go.Proofs.Yteigbpmfjiofiab
