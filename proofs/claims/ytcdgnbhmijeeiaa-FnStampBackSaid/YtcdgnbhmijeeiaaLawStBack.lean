/-
  The walk through the law on StampBack: it returns true.
-/
import Derived.Test.YtcdgnbhmijeeiaaDraw4
import Derived.Test.YtcdgnbhmijeeiaaStampF
import Derived.Test.YtcdgnbhmijeeiaaHelp2
import Derived.Test.YtcdgnbhmijeeiaaBalance
import Derived.Test.YtcdgnbhmijeeiaaPlainS
namespace Go.Proofs.Ytcdgnbhmijeeiaa
open Go.RowKit

set_option maxHeartbeats 400000 in
theorem laws_backText (s : ByteArray) (w : World) (hs : s.size ≤ 1048576) :
    Calls Try.prog 56 #[.string s] w fun e w' => e = .returned (.string (revS s)) ∧ w = w' := by
  go_enter Try.func56, Try.ntmps56
  go_wp2
  go_loop [3, 4] (fun t i => ∃ j : Nat, j ≤ s.size ∧ i = .int .i64 ((s.size : Int) - 1 - j) ∧ t = .string (revTo s j)) (fun _ i => (intOf i + 1).toNat)
  case atStart => exact ⟨0, Nat.zero_le _, by go_num, by rw [revTo_zero]; rfl⟩
  case round =>
    obtain ⟨j, hj, rfl, rfl⟩ := hrel
    have hz : (revTo s j).size ≤ j := by rw [revTo_size s j hj]; exact Nat.le_refl _
    by_cases hlt : j < s.size
    · have HS := Lib.hid (revTo_succ s j hlt)
      have HE := Lib.hid (extract_one s (s.size - 1 - j) (by omega))
      go_wp2
      go_round
      case rel => exact ⟨j + 1, by omega, by go_num, by rw [HS.out, ← HE.out]⟩
      case measure => simp [intOf]; omega
    · go_wp2
      go_ret
      exact ⟨ret_str (revTo_all s j (by omega)), rfl⟩

theorem sf_list (xs : List Int) : (stampFolds xs).data.toList = (List.range (xs.length - 1)).map (sfB (levelsL xs)) := by simp [stampFolds, sfTo]
theorem revS_list (s : ByteArray) : (revS s).data.toList = s.data.toList.reverse := by simp [revS]
theorem sfB_back {xs : List Int} (hp : permB xs = true) {k : Nat} (hk : k + 1 < xs.length) :
    sfB (levelsL (backL xs)) k = if xs.length % 2 = 0 then swp (sfB (levelsL xs) (xs.length - 2 - k)) else sfB (levelsL xs) (xs.length - 2 - k) := by
  have hl := backL_length xs
  have hne : lvl xs (xs.length - 2 - k) ≠ lvl xs (xs.length - 2 - k + 1) := fun e => by have := lvl_inj hp (by omega) (by omega) e; omega
  unfold sfB
  rw [levelsL_get (backL xs) k (by omega), levelsL_get (backL xs) (k + 1) (by omega), levelsL_get xs (xs.length - 2 - k) (by omega), levelsL_get xs (xs.length - 2 - k + 1) (by omega)]
  rw [backL_lvl xs (by omega), backL_lvl xs (by omega)]
  rw [show xs.length - 1 - k = xs.length - 2 - k + 1 by omega, show xs.length - 1 - (k + 1) = xs.length - 2 - k by omega]
  have e1 : decide (lvl xs (xs.length - 2 - k + 1) < lvl xs (xs.length - 2 - k)) = !decide (lvl xs (xs.length - 2 - k) < lvl xs (xs.length - 2 - k + 1)) := by
    rw [← decide_not, decide_eq_decide]; omega
  rw [e1]
  by_cases he : xs.length % 2 = 0
  · rw [if_pos he]
    have e2 : decide (k % 2 = 0) = decide ((xs.length - 2 - k) % 2 = 0) := by rw [decide_eq_decide]; omega
    rw [e2]
    cases decide (lvl xs (xs.length - 2 - k) < lvl xs (xs.length - 2 - k + 1)) <;> cases decide ((xs.length - 2 - k) % 2 = 0) <;> decide
  · rw [if_neg he]
    have e2 : decide (k % 2 = 0) = !decide ((xs.length - 2 - k) % 2 = 0) := by rw [← decide_not, decide_eq_decide]; omega
    rw [e2]
    cases decide (lvl xs (xs.length - 2 - k) < lvl xs (xs.length - 2 - k + 1)) <;> cases decide ((xs.length - 2 - k) % 2 = 0) <;> decide
theorem sf_back {xs : List Int} (hp : permB xs = true) : stampFolds (backL xs) = if xs.length % 2 = 0 then swapS (revS (stampFolds xs)) else revS (stampFolds xs) := by
  have key : ∀ k, k < xs.length - 1 → (stampFolds (backL xs)).data.toList[k]? = some (if xs.length % 2 = 0 then swp (sfB (levelsL xs) (xs.length - 2 - k)) else sfB (levelsL xs) (xs.length - 2 - k)) := fun k hk => by
    rw [sf_list, backL_length, List.getElem?_map, List.getElem?_range hk, Option.map_some, sfB_back hp (by omega)]
  have rv : ∀ k, k < xs.length - 1 → (revS (stampFolds xs)).data.toList[k]? = some (sfB (levelsL xs) (xs.length - 2 - k)) := fun k hk => by
    rw [revS_list, List.getElem?_reverse (by rw [sf_list]; simpa using hk), sf_list, List.length_map, List.length_range, List.getElem?_map, List.getElem?_range (by omega), Option.map_some]
    congr 2 <;> omega
  by_cases he : xs.length % 2 = 0
  · rw [if_pos he]
    apply ByteArray.ext
    apply Array.toList_inj.1
    apply List.ext_getElem?
    intro k
    by_cases hk : k < xs.length - 1
    · rw [key k hk, if_pos he]
      simp only [swapS]
      rw [List.getElem?_map, rv k hk]
      rfl
    · rw [List.getElem?_eq_none (by rw [sf_list, backL_length]; simp; omega), List.getElem?_eq_none]
      simp only [swapS]
      rw [List.length_map, revS_list, List.length_reverse, sf_list]
      simp
      omega
  · rw [if_neg he]
    apply ByteArray.ext
    apply Array.toList_inj.1
    apply List.ext_getElem?
    intro k
    by_cases hk : k < xs.length - 1
    · rw [key k hk, if_neg he, rv k hk]
    · rw [List.getElem?_eq_none (by rw [sf_list, backL_length]; simp; omega), List.getElem?_eq_none]
      rw [revS_list, List.length_reverse, sf_list]
      simp
      omega

set_option maxRecDepth 100000 in
set_option maxHeartbeats 2000000 in
theorem law_FnStampBack (w : World) (a : Option Addr) (n cap : Nat) (bs : List Int) (hx : Bytes w a n cap bs) :
    Calls Try.prog 14 #[.slice a n cap] w (RVal w (.bool true)) := by
  have hle := hx.1.le
  have hmx := hx.1.max
  unfold maxLen at hmx
  by_cases hn : n ≤ 1048576
  · have H1 := Lib.hid (spec_DrawStampBack a n cap bs w hx)
    go_enter Try.func14, Try.ntmps14
    go_wp2_with fail
    refine H1.out.mono ?_
    rintro e w1 ⟨a1, n1, c1, xs, rfl, i1, hn1, b1⟩
    have hle1 := i1.le_cap
    have HL1 := Lib.hid i1.length
    cases hv : possB xs with
    | false =>
      have P1 := Lib.hid (fun (W : World) (hW : Ints W a1 n1 c1 xs) => impl_StampBack_no a1 n1 c1 xs W hW hv)
      have P2 := Lib.hid (fun (W : World) (hW : Ints W a1 n1 c1 xs) => spec_StampBack_no a1 n1 c1 xs W hW (by omega) hv)
      clear hv
      go_wp2_with fail
      refine (P1.out w1 i1).mono ?_
      rintro e w2 ⟨a2, n2, c2, rfl, o2, b2⟩
      go_wp2_with fail
      refine (P2.out w2 (i1.below b2)).mono ?_
      rintro e w3 ⟨a3, n3, c3, rfl, o3, b3⟩
      go_wp2_with fail
      refine (sameInts_same a2 a3 n2 n3 c2 c3 _ w3 (o2.below b3).ints o3.ints).mono ?_
      rintro e w4 ⟨rfl, b4⟩
      go_wp2_with fail
      refine (sameInts_same a2 a3 n2 n3 c2 c3 _ w4 ((o2.below b3).below b4).ints (o3.below b4).ints).mono ?_
      rintro e w5 ⟨rfl, b5⟩
      go_wp2_with fail
      go_ret
      have B2 := Below.call b1 b1.size b2
      have B3 := Below.call B2 B2.size b3
      have B4 := Below.call B3 B3.size b4
      exact ⟨rfl, Below.call B4 B4.size b5⟩
    | true =>
      have P1 := Lib.hid (fun (W : World) (hW : Ints W a1 n1 c1 xs) => impl_StampBack_yes a1 n1 c1 xs W hW hv)
      have P2 := Lib.hid (fun (W : World) (hW : Ints W a1 n1 c1 xs) => spec_StampBack_yes a1 n1 c1 xs W hW (by omega) hv)
      have hvt := backL_possB hv
      have P3 : Hid (∀ (W : World) (A : Option Addr) (m c : Nat), Ints W A m c (backL xs) → Calls Try.prog 53 #[.slice A m c] W (RIntsB W xs true)) := fun W A m c hW => by
        have := impl_StampBack_yes A m c _ W hW hvt
        rwa [backL_backL] at this
      have P4 := Lib.hid (fun (W : World) (hW : Ints W a1 n1 c1 xs) => impl_StampFolds_yes a1 n1 c1 xs W hW hv)
      have P5 := fun (W : World) (A : Option Addr) (m c : Nat) (hW : Ints W A m c (backL xs)) => impl_StampFolds_yes A m c (backL xs) W hW hvt
      have hsb := sf_back (possB_perm hv)
      rw [i1.length] at hsb
      rw [hsb] at P5
      have P5 := Lib.hid P5
      have P6 : Hid (∀ (W : World) (A : Option Addr) (m c : Nat), Ints W A m c (backL xs) → Calls Try.prog 49 #[.slice A m c] W (RVal W (.bool true))) := fun W A m c hW => by
        have := impl_StampPossible A m c (backL xs) W hW
        rwa [hvt] at this
      have hl := possB_len hv
      rw [i1.length] at hl
      obtain ⟨hl1, hl7⟩ := hl
      have hsA : (stampFolds xs).size = xs.length - 1 := sfTo_size _ _
      rw [i1.length] at hsA
      have HSA := Lib.hid hsA
      clear hv hvt hsb hsA
      go_wp2_with fail
      refine (P1.out w1 i1).mono ?_
      rintro e w2 ⟨a2, n2, c2, rfl, o2, b2⟩
      go_wp2_with fail
      refine (P2.out w2 (i1.below b2)).mono ?_
      rintro e w3 ⟨a3, n3, c3, rfl, o3, b3⟩
      go_wp2_with fail
      refine (sameInts_same a2 a3 n2 n3 c2 c3 _ w3 (o2.below b3).ints o3.ints).mono ?_
      rintro e w4 ⟨rfl, b4⟩
      have i4 := ((i1.below b2).below b3).below b4
      have o4 := (o2.below b3).below b4
      have B2 := Below.call b1 b1.size b2
      have B3 := Below.call B2 B2.size b3
      have B4 := Below.call B3 B3.size b4
      clear i1 o2 o3 b2 b3 b4 B2 B3
      go_wp2_with fail
      refine (P3.out w4 a2 n2 c2 o4.ints).mono ?_
      rintro e w5 ⟨a5, n5, c5, rfl, o5, b5⟩
      go_wp2_with fail
      refine (P4.out w5 (i4.below b5)).mono ?_
      rintro e w6 ⟨rfl, b6⟩
      go_wp2_with fail
      refine (P5.out w6 a2 n2 c2 ((o4.below b5).below b6).ints).mono ?_
      rintro e w7 ⟨rfl, b7⟩
      have i7 := ((i4.below b5).below b6).below b7
      have o7 := ((o4.below b5).below b6).below b7
      have x7 := (o5.below b6).below b7
      have B5 := Below.call B4 B4.size b5
      have B6 := Below.call B5 B5.size b6
      have B7 := Below.call B6 B6.size b7
      clear i4 o4 o5 b5 b6 b7 B4 B5 B6
      generalize stampFolds xs = sA at HSA
      have hsA : sA.size ≤ 7 := by rw [HSA.out]; omega
      by_cases he : n1 % 2 = 0
      · have heb : ((n1 : Int) % 2 == 0) = true := by rw [beq_iff_eq]; omega
        rw [if_pos he]
        clear he
        go_wp2_with fail
        refine (laws_backText sA w7 (by omega)).mono ?_
        rintro e w8 ⟨rfl, rfl⟩
        go_wp2_with fail
        refine (impl_FoldsSwap (revS sA) w7 (by rw [revS_size]; unfold maxLen; omega)).mono ?_
        rintro e w8 ⟨rfl, b8⟩
        go_wp2_with fail
        refine (sameInts_same a5 a1 n5 n1 c5 c1 _ w8 (x7.below b8).ints (i7.below b8)).mono ?_
        rintro e w9 ⟨rfl, b9⟩
        go_wp2_with fail
        refine (P6.out w9 a2 n2 c2 ((o7.below b8).below b9).ints).mono ?_
        rintro e w10 ⟨rfl, b10⟩
        go_wp2_with fail
        go_ret
        have B8 := Below.call B7 B7.size b8
        have B9 := Below.call B8 B8.size b9
        exact ⟨rfl, Below.call B9 B9.size b10⟩
      · have heb : ((n1 : Int) % 2 == 0) = false := by rw [beq_eq_false_iff_ne]; omega
        rw [if_neg he]
        clear he
        go_wp2_with fail
        refine (laws_backText sA w7 (by omega)).mono ?_
        rintro e w8 ⟨rfl, rfl⟩
        go_wp2_with fail
        refine (sameInts_same a5 a1 n5 n1 c5 c1 _ w7 x7.ints i7).mono ?_
        rintro e w9 ⟨rfl, b9⟩
        go_wp2_with fail
        refine (P6.out w9 a2 n2 c2 (o7.below b9).ints).mono ?_
        rintro e w10 ⟨rfl, b10⟩
        go_wp2_with fail
        go_ret
        have B9 := Below.call B7 B7.size b9
        exact ⟨rfl, Below.call B9 B9.size b10⟩
  · go_enter Try.func14, Try.ntmps14
    go_wp2_with fail
    go_ret
    exact ⟨rfl, Below.refl _ _⟩

end Go.Proofs.Ytcdgnbhmijeeiaa
