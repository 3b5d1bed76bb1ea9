/-
  The walk through the law on StripPlaces: it returns true.
-/
import Derived.Test.YtcdgnbhmijeeiaaDraw2
import Derived.Test.YtcdgnbhmijeeiaaHelp2
import Derived.Test.YtcdgnbhmijeeiaaStrip3
import Derived.Test.YtcdgnbhmijeeiaaPlainW
namespace Go.Proofs.Ytcdgnbhmijeeiaa
open Go.RowKit

set_option maxRecDepth 100000 in
set_option maxHeartbeats 2000000 in
theorem law_FnPlaces (w : World) (a : Option Addr) (n cap : Nat) (bs : List Int) (hx : Bytes w a n cap bs) :
    Calls Try.prog 8 #[.slice a n cap] w (RVal w (.bool true)) := by
  have hle := hx.1.le
  have hmx := hx.1.max
  unfold maxLen at hmx
  by_cases hn : n ≤ 1048576
  · have H1 := Lib.hid (spec_DrawStripPlaces a n cap bs w hx)
    go_enter Try.func8, Try.ntmps8
    go_wp2_with fail
    refine H1.out.mono ?_
    rintro e w1 ⟨a1, n1, c1, xs, rfl, i1, hn1, b1⟩
    have hle1 := i1.le_cap
    have HL1 := Lib.hid i1.length
    cases hv : lengthsB xs with
    | false =>
      have P1 := impl_StripPlaces a1 n1 c1 xs
      have P2 := spec_StripPlaces a1 n1 c1 xs
      rw [hv, if_neg (by simp)] at P1 P2
      have P1 := Lib.hid P1
      have P2 := Lib.hid P2
      clear hv
      go_wp2_with fail
      refine (P1.out w1 i1).mono ?_
      rintro e w2 ⟨a2, n2, c2, rfl, o2, b2⟩
      go_wp2_with fail
      refine (P2.out w2 (i1.below b2) (by omega)).mono ?_
      rintro e w3 ⟨a3, n3, c3, rfl, o3, b3⟩
      go_wp2_with fail
      refine (sameInts_same a2 a3 n2 n3 c2 c3 _ w3 (o2.below b3).ints o3.ints).mono ?_
      rintro e w4 ⟨rfl, b4⟩
      go_wp2_with fail
      refine (sameInts_same a2 a3 n2 n3 c2 c3 _ w4 ((o2.below b3).below b4).ints (o3.below b4).ints).mono ?_
      rintro e w5 ⟨rfl, b5⟩
      go_wp2_with fail
      go_ret
      have B2 := Below.call b1 b1.size b2
      have B3 := Below.call B2 B2.size b3
      have B4 := Below.call B3 B3.size b4
      exact ⟨rfl, Below.call B4 B4.size b5⟩
    | true =>
      have P1 := impl_StripPlaces a1 n1 c1 xs
      have P2 := spec_StripPlaces a1 n1 c1 xs
      have P3 := impl_StripWide a1 n1 c1 xs
      rw [hv, if_pos rfl] at P1 P2
      rw [hv] at P3
      simp only [if_true] at P3
      have P1 := Lib.hid P1
      have P2 := Lib.hid P2
      have P3 := Lib.hid P3
      have HIN := Lib.hid (lengthsB_in hv)
      have HG := Lib.hid (wide_ge (xs := xs))
      have HW := Lib.hid (wide_le hv)
      have hl6 := (lengthsB_len hv)
      rw [i1.length] at hl6
      obtain ⟨hl1, hl6⟩ := hl6
      have HBD := Lib.hid (fun k hk => placesL_get_bd (xs := xs) hv k hk)
      have hpl := placesL_length xs
      rw [i1.length] at hpl
      have HPL := Lib.hid hpl
      clear hv hpl
      go_wp2_with fail
      refine (P1.out w1 i1).mono ?_
      rintro e w2 ⟨a2, n2, c2, rfl, o2, b2⟩
      obtain rfl : n1 + 1 = n2 := HPL.out.symm.trans o2.length
      go_wp2_with fail
      refine (P2.out w2 (i1.below b2) (by omega)).mono ?_
      rintro e w3 ⟨a3, n3, c3, rfl, o3, b3⟩
      go_wp2_with fail
      refine (sameInts_same a2 a3 (n1 + 1) n3 c2 c3 _ w3 (o2.below b3).ints o3.ints).mono ?_
      rintro e w4 ⟨rfl, b4⟩
      have i4 := ((i1.below b2).below b3).below b4
      have o4 := (o2.below b3).below b4
      have hle4 := o4.ints.le_cap
      have B2 := Below.call b1 b1.size b2
      have B3 := Below.call B2 B2.size b3
      have B4 := Below.call B3 B3.size b4
      clear i1 o2 o3 b2 b3 b4 B2 B3
      go_wp2_with fail
      go_loopw [8, 9, 10, 11] (fun lo ev od i wr => ∃ k : Nat, k ≤ n1 ∧ i = .int .i64 k ∧ lo = .int .i64 (lonTo xs k) ∧ ev = .int .i64 (evTo xs k) ∧ od = .int .i64 (odTo xs k) ∧ Below w4.heap.size w4 wr) (fun _ _ _ i _ => n1 - (intOf i).toNat)
      case atStart => exact ⟨0, Nat.zero_le _, rfl, rfl, rfl, rfl, Below.refl _ _⟩
      case round =>
        obtain ⟨k, hk, rfl, rfl, rfl, rfl, hB⟩ := hrel
        obtain ⟨hbe, hbo, hbl⟩ := ev_od_bd HIN.out k (by rw [HL1.out]; exact hk)
        by_cases hlt : k < n1
        · obtain ⟨b, off, rfl, hc⟩ := (i4.below hB).cells (by omega)
          obtain ⟨b', off', rfl, hc'⟩ := (o4.ints.below hB).cells (by omega)
          have d1 := hc k hlt
          have d2 := hc' k (by omega)
          have d3 := hc' (k + 1) (by omega)
          clear hc hc'
          have hX := allIn_get HIN.out k (by rw [HL1.out]; exact hlt)
          have e1 := alt_take xs k (by rw [HL1.out]; exact hlt)
          rw [← placesL_get xs k (by rw [HL1.out]; omega), ← placesL_get xs (k + 1) (by rw [HL1.out]; omega)] at e1
          have hP1 := HBD.out k (by rw [HL1.out]; omega)
          have hP2 := HBD.out (k + 1) (by rw [HL1.out]; omega)
          have HS1 : Hid (lonTo xs (k + 1) = max (lonTo xs k) (xs[k]?.getD 0)) := rfl
          have HS2 : Hid (evTo xs (k + 1) = if k % 2 = 0 then evTo xs k + xs[k]?.getD 0 else evTo xs k) := rfl
          have HS3 : Hid (odTo xs (k + 1) = if k % 2 = 0 then odTo xs k else odTo xs k + xs[k]?.getD 0) := rfl
          generalize (placesL xs)[k]?.getD 0 = P at d2 e1 hP1
          generalize (placesL xs)[k + 1]?.getD 0 = P' at d3 e1 hP2
          generalize xs[k]?.getD 0 = X at d1 e1 hX HS1 HS2 HS3
          generalize lonTo xs k = L at hbl HS1 ⊢
          generalize evTo xs k = E at hbe HS2 ⊢
          generalize odTo xs k = O at hbo HS3 ⊢
          by_cases hp : k % 2 = 0
          · rw [if_pos hp] at e1
            have HS2 := Lib.hid (HS2.out.trans (if_pos hp))
            have HS3 := Lib.hid (HS3.out.trans (if_pos hp))
            go_wp2
            have hi1 : (k : Int) < n1 + 1 := by omega
            have hi2 : (k : Int) + 1 < n1 + 1 := by omega
            have z1 : 0 ≤ (k : Int) + 1 := by omega
            have t1 : ((k : Int) + 1).toNat = k + 1 := by omega
            have w9 : IntKind.i64.wrap ((k : Int) + 1) = (k : Int) + 1 := IntWalk.i64_in _ (by omega)
            have w8 : IntKind.i64.wrap (P' - P) = X := by rw [IntWalk.i64_in _ (by omega)]; omega
            have E1 := Lib.hid e1
            clear e1
            go_quiet (fail)
            clear z1 t1 w9 hi1 hi2 w8
            go_wp2
            go_roundw
            case rel => exact ⟨k + 1, by omega, by go_num, by rw [HS1.out, ← go_max], by rw [HS2.out], by rw [HS3.out], below_drewN hB _⟩
            case measure => simp [intOf]; omega
          · rw [if_neg hp] at e1
            have HS2 := Lib.hid (HS2.out.trans (if_neg hp))
            have HS3 := Lib.hid (HS3.out.trans (if_neg hp))
            have hp1 : k % 2 = 1 := by omega
            have hp2 : ((k : Int) % 2 == 1) = true := by rw [beq_iff_eq]; omega
            have hp3 : ((k : Int) % 2 == 0) = false := by rw [beq_eq_false_iff_ne]; omega
            go_wp2
            have hi1 : (k : Int) < n1 + 1 := by omega
            have hi2 : (k : Int) + 1 < n1 + 1 := by omega
            have z1 : 0 ≤ (k : Int) + 1 := by omega
            have t1 : ((k : Int) + 1).toNat = k + 1 := by omega
            have w9 : IntKind.i64.wrap ((k : Int) + 1) = (k : Int) + 1 := IntWalk.i64_in _ (by omega)
            have w8 : IntKind.i64.wrap (P' - P) = -X := by rw [IntWalk.i64_in _ (by omega)]; omega
            have E1 := Lib.hid e1
            clear e1
            go_quiet (fail)
            clear z1 t1 w9 hi1 hi2 w8
            go_wp2
            go_roundw
            case rel => exact ⟨k + 1, by omega, by go_num, by rw [HS1.out, ← go_max], by rw [HS2.out], by rw [HS3.out], below_drewN hB _⟩
            case measure => simp [intOf]; omega
        · obtain rfl : k = n1 := by omega
          have hg1 := HG.out k (by rw [HL1.out]; exact Nat.le_refl _)
          have hw1 := HW.out
          rw [HL1.out] at hw1
          go_wp2_with fail
          refine (P3.out wr (i4.below hB)).mono ?_
          rintro e w5 ⟨rfl, b5⟩
          obtain ⟨b', off', rfl, hc'⟩ := ((o4.ints.below hB).below b5).cells (by omega)
          have d0 := hc' 0 (by omega)
          rw [placesL_get xs 0 (Nat.zero_le _), show alt (xs.take 0) = 0 by simp [alt], Nat.add_zero] at d0
          clear hc'
          have B5 := B4.trans (hB.mono B4.size)
          have B6 := Below.call B5 B5.size b5
          generalize wideL xs = W at hg1 hw1 ⊢
          generalize lonTo xs k = L at hg1 hbl ⊢
          generalize evTo xs k = E at hw1 hbe ⊢
          generalize odTo xs k = O at hw1 hbo ⊢
          by_cases hEO : E < O
          · have hw2 : W ≤ O := by omega
            go_wp2_with fail
            go_ret
            exact ⟨rfl, B6⟩
          · have hw2 : W ≤ E := by omega
            go_wp2_with fail
            go_ret
            exact ⟨rfl, B6⟩
  · go_enter Try.func8, Try.ntmps8
    go_wp2_with fail
    go_ret
    exact ⟨rfl, Below.refl _ _⟩

end Go.Proofs.Ytcdgnbhmijeeiaa
