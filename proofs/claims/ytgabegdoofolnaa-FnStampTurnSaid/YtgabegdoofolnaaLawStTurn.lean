/-
  The walk through the law on StampTurn: it returns true.
-/
import Derived.Test.YtgabegdoofolnaaDraw4
import Derived.Test.YtgabegdoofolnaaStampF
import Derived.Test.YtgabegdoofolnaaHelp2
namespace Go.Proofs.Ytgabegdoofolnaa
open Go.RowKit

theorem fold_turn {xs : List Int} (hp : permB xs = true) {k : Nat} (hk : k + 1 < xs.length) :
    (sfB (levelsL xs) k = sfB (levelsL (turnL xs)) k) ↔ ¬ ((k : Int) = xs[0]?.getD 0 ∨ (k : Int) + 1 = xs[0]?.getD 0) := by
  have hl := turnL_length xs (by omega)
  have h1 := turnL_lvl hp (i := k) (by omega)
  have h2 := turnL_lvl hp (i := k + 1) hk
  have hne : lvl xs k ≠ lvl xs (k + 1) := fun e => by have := lvl_inj hp (by omega) hk e; omega
  unfold sfB
  rw [levelsL_get xs k (by omega), levelsL_get xs (k + 1) hk, levelsL_get (turnL xs) k (by omega), levelsL_get (turnL xs) (k + 1) (by omega)]
  rw [show ((k + 1 : Nat) : Int) = (k : Int) + 1 by omega] at h2
  have key : (decide (lvl xs k < lvl xs (k + 1)) = decide (lvl (turnL xs) k < lvl (turnL xs) (k + 1))) ↔ ¬ ((k : Int) = xs[0]?.getD 0 ∨ (k : Int) + 1 = xs[0]?.getD 0) := by
    rw [decide_eq_decide]
    rcases h1 with h1 | h1 <;> rcases h2 with h2 | h2 <;> omega
  rw [← key]
  cases decide (lvl xs k < lvl xs (k + 1)) <;> cases decide (lvl (turnL xs) k < lvl (turnL xs) (k + 1)) <;> cases decide (k % 2 = 0) <;> simp
theorem stampFolds_size (xs : List Int) : (stampFolds xs).size = xs.length - 1 := sfTo_size _ _
theorem sfTo_get (L : List Int) (n k : Nat) (h : k < n) : (sfTo L n)[k]'(by rw [sfTo_size]; exact h) = sfB L k := by
  show (sfTo L n).data[k]'_ = sfB L k
  simp [sfTo]
theorem stampFolds_get (xs : List Int) (k : Nat) (h : k < (stampFolds xs).size) : (stampFolds xs)[k] = sfB (levelsL xs) k := sfTo_get _ _ _ (by rw [stampFolds_size] at h; exact h)

set_option maxRecDepth 100000 in
set_option maxHeartbeats 2000000 in
theorem law_FnStampTurn (w : World) (a : Option Addr) (n cap : Nat) (bs : List Int) (hx : Bytes w a n cap bs) :
    Calls Try.prog 13 #[.slice a n cap] w (RVal w (.bool true)) := by
  have hle := hx.1.le
  have hmx := hx.1.max
  unfold maxLen at hmx
  by_cases hn : n ≤ 1048576
  · have H1 := Lib.hid (spec_DrawStampTurn a n cap bs w hx)
    go_enter Try.func13, Try.ntmps13
    go_wp2_with fail
    refine H1.out.mono ?_
    rintro e w1 ⟨a1, n1, c1, xs, rfl, i1, hn1, b1⟩
    have hle1 := i1.le_cap
    have HL1 := Lib.hid i1.length
    cases hv : possB xs with
    | false =>
      have P1 := Lib.hid (fun (W : World) (hW : Ints W a1 n1 c1 xs) => impl_StampTurn_no a1 n1 c1 xs W hW hv)
      have P2 := Lib.hid (fun (W : World) (hW : Ints W a1 n1 c1 xs) => spec_StampTurn_no a1 n1 c1 xs W hW (by omega) hv)
      clear hv
      go_wp2_with fail
      refine (P1.out w1 i1).mono ?_
      rintro e w2 ⟨a2, n2, c2, rfl, o2, b2⟩
      go_wp2_with fail
      refine (P2.out w2 (i1.below b2)).mono ?_
      rintro e w3 ⟨a3, n3, c3, rfl, o3, b3⟩
      go_wp2_with fail
      refine (sameInts_same a2 a3 n2 n3 c2 c3 _ w3 (o2.below b3).ints o3.ints).mono ?_
      rintro e w4 ⟨rfl, b4⟩
      go_wp2_with fail
      refine (sameInts_same a2 a3 n2 n3 c2 c3 _ w4 ((o2.below b3).below b4).ints (o3.below b4).ints).mono ?_
      rintro e w5 ⟨rfl, b5⟩
      go_wp2_with fail
      go_ret
      have B2 := Below.call b1 b1.size b2
      have B3 := Below.call B2 B2.size b3
      have B4 := Below.call B3 B3.size b4
      exact ⟨rfl, Below.call B4 B4.size b5⟩
    | true =>
      have P1 := Lib.hid (fun (W : World) (hW : Ints W a1 n1 c1 xs) => impl_StampTurn_yes a1 n1 c1 xs W hW hv)
      have P2 := Lib.hid (fun (W : World) (hW : Ints W a1 n1 c1 xs) => spec_StampTurn_yes a1 n1 c1 xs W hW (by omega) hv)
      have P3 : Hid (∀ (W : World) (A : Option Addr) (c k : Nat), k < n1 → Ints W A n1 c (xs.drop k ++ xs.take k) → Calls Try.prog 20 #[.slice A n1 c] W (RIntsB W (xs.drop (k + 1) ++ xs.take (k + 1)) true)) := fun W A c k hk hW => by
        have := impl_StampTurn_yes A n1 c _ W hW (cut_possB hv k (by rw [i1.length]; omega))
        rwa [turn_cut (by rw [i1.length]; exact hk)] at this
      have P4 := Lib.hid (fun (W : World) (hW : Ints W a1 n1 c1 xs) => impl_StampFolds_yes a1 n1 c1 xs W hW hv)
      have hvt := turnL_possB hv
      have P5 := Lib.hid (fun (W : World) (A : Option Addr) (m c : Nat) (hW : Ints W A m c (turnL xs)) => impl_StampFolds_yes A m c (turnL xs) W hW hvt)
      have P6 : Hid (∀ (W : World) (A : Option Addr) (m c : Nat), Ints W A m c (turnL xs) → Calls Try.prog 38 #[.slice A m c] W (RVal W (.bool true))) := fun W A m c hW => by
        have := impl_StampPossible A m c (turnL xs) W hW
        rwa [hvt] at this
      have hl := possB_len hv
      rw [i1.length] at hl
      obtain ⟨hl1, hl7⟩ := hl
      have HF := Lib.hid (fun (k : Nat) (hk : k + 1 < xs.length) => fold_turn (possB_perm hv) (k := k) hk)
      have HT : Hid ((turnL xs).length = n1) := by unfold Hid; rw [turnL_length xs (by rw [i1.length]; exact hl1)]; exact i1.length
      have HR := possB_range hv 0 (by rw [i1.length]; omega)
      rw [i1.length] at HR
      clear hv hvt
      go_wp2_with fail
      refine (P1.out w1 i1).mono ?_
      rintro e w2 ⟨a2, n2, c2, rfl, o2, b2⟩
      obtain rfl : n1 = n2 := HT.out.symm.trans o2.length
      go_wp2_with fail
      refine (P2.out w2 (i1.below b2)).mono ?_
      rintro e w3 ⟨a3, n3, c3, rfl, o3, b3⟩
      go_wp2_with fail
      refine (sameInts_same a2 a3 n1 n3 c2 c3 _ w3 (o2.below b3).ints o3.ints).mono ?_
      rintro e w4 ⟨rfl, b4⟩
      have i4 := ((i1.below b2).below b3).below b4
      have o4 := (o2.below b3).below b4
      have B2 := Below.call b1 b1.size b2
      have B3 := Below.call B2 B2.size b3
      have B4 := Below.call B3 B3.size b4
      clear i1 o2 o3 b2 b3 b4 B2 B3
      go_wp2_with fail
      go_loopw [8, 9, 10, 11] (fun x i _ _ wr => ∃ (k : Nat) (A : Option Addr) (c : Nat), k ≤ n1 ∧ i = .int .i64 k ∧ x = .slice A n1 c ∧ Ints wr A n1 c (xs.drop k ++ xs.take k) ∧ Below w4.heap.size w4 wr) (fun _ i _ _ _ => n1 - (intOf i).toNat)
      case atStart => exact ⟨0, _, _, Nat.zero_le _, rfl, rfl, by simpa using i4, Below.refl _ _⟩
      case round =>
        obtain ⟨k, A, c, hk, rfl, rfl, HI, hB⟩ := hrel
        by_cases hlt : k < n1
        · go_wp2_with fail
          refine (P3.out wr A c k hlt HI).mono ?_
          rintro e w5 ⟨a5, n5, c5, rfl, o5, b5⟩
          have hn5 : n5 = n1 := by
            rw [← o5.length, List.length_append, List.length_drop, List.length_take, HL1.out]
            omega
          subst hn5
          go_wp2_with fail
          go_roundw
          case rel => exact ⟨k + 1, a5, c5, by omega, by go_num, rfl, o5.ints, Below.call hB hB.size b5⟩
          case measure => simp [intOf]; omega
        · obtain rfl : k = n1 := by omega
          have HI2 : Ints wr A k c xs := by
            have q := HI
            rwa [List.drop_of_length_le (by rw [HL1.out]; omega), List.take_of_length_le (by rw [HL1.out]; omega), List.nil_append] at q
          clear HI
          obtain ⟨wo, rfl⟩ : ∃ wo : World, wo = wr := ⟨_, rfl⟩
          go_wp2_with fail
          refine (P4.out wo (i4.below hB)).mono ?_
          rintro e w6 ⟨rfl, b6⟩
          go_wp2_with fail
          refine (P5.out w6 a2 k c2 ((o4.below hB).below b6).ints).mono ?_
          rintro e w7 ⟨rfl, b7⟩
          have i7 := ((i4.below hB).below b6).below b7
          have o7 := ((o4.below hB).below b6).below b7
          have x7 := (HI2.below b6).below b7
          have B5 := B4.trans (hB.mono B4.size)
          have B6 := Below.call B5 B5.size b6
          have B7 := Below.call B6 B6.size b7
          clear i4 o4 HI2 B4 B5 B6 b6 b7 hB
          have hsA := stampFolds_size xs
          have hsB := stampFolds_size (turnL xs)
          rw [HL1.out] at hsA
          rw [HT.out] at hsB
          have HGA := Lib.hid (fun (j : Nat) (hj : j < (stampFolds xs).size) => stampFolds_get xs j hj)
          have HGB := Lib.hid (fun (j : Nat) (hj : j < (stampFolds (turnL xs)).size) => stampFolds_get (turnL xs) j hj)
          generalize stampFolds xs = sA at hsA HGA
          generalize stampFolds (turnL xs) = sB at hsB HGB
          have hA1 : sA.size + 1 ≤ k := by omega
          have hA2 : k ≤ sA.size + 1 := by omega
          have hB1 : sB.size + 1 ≤ k := by omega
          have hB2 : k ≤ sB.size + 1 := by omega
          clear hsA hsB
          go_wp2_with fail
          go_loopw [16] (fun i wr => ∃ j : Nat, j ≤ k ∧ i = .int .i64 j ∧ Below w7.heap.size w7 wr) (fun i _ => k - (intOf i).toNat)
          case atStart => exact ⟨0, Nat.zero_le _, rfl, Below.refl _ _⟩
          case round =>
            obtain ⟨j, hj, rfl, hBj⟩ := hrel
            by_cases hlt2 : j + 1 < k
            · obtain ⟨b, off, rfl, hc⟩ := (i7.below hBj).cells (by omega)
              have d0 := hc 0 (by omega)
              rw [Nat.add_zero] at d0
              clear hc
              have hjA : j < sA.size := by omega
              have hjB : j < sB.size := by omega
              have hjA' : (j : Int) < sA.size := by omega
              have hjB' : (j : Int) < sB.size := by omega
              have hk0 : (0 : Int) < k := by omega
              have key := HF.out j (by rw [HL1.out]; exact hlt2)
              rw [← HGA.out j hjA, ← HGB.out j hjB] at key
              generalize xs[0]?.getD 0 = X at d0 key HR
              have key2 : ((sA[j].toNat : Int) = (sB[j].toNat : Int)) ↔ ¬ ((j : Int) = X ∨ (j : Int) + 1 = X) := by
                rw [← key]
                constructor
                · intro q; exact UInt8.toNat_inj.1 (by omega)
                · intro q; rw [q]
              clear key
              have w9 : IntKind.i64.wrap ((j : Int) + 1) = (j : Int) + 1 := IntWalk.i64_in _ (by omega)
              by_cases k1 : (j : Int) = X
              · have hb1 : ((j : Int) == X) = true := by rw [beq_iff_eq]; exact k1
                have huv : ((sA[j].toNat : Int) != (sB[j].toNat : Int)) = true := by rw [bne_iff_ne]; exact fun q => (key2.1 q) (.inl k1)
                clear key2 k1
                go_wp2
                go_quiet (fail)
                clear w9 hk0
                go_wp2
                go_roundw
                case rel => exact ⟨j + 1, by omega, by go_num, below_drewN hBj _⟩
                case measure => simp [intOf]; omega
              · have hb1 : ((j : Int) == X) = false := by rw [beq_eq_false_iff_ne]; exact k1
                by_cases k2 : (j : Int) + 1 = X
                · have hb2 : ((j : Int) + 1 == X) = true := by rw [beq_iff_eq]; exact k2
                  have huv : ((sA[j].toNat : Int) != (sB[j].toNat : Int)) = true := by rw [bne_iff_ne]; exact fun q => (key2.1 q) (.inr k2)
                  clear key2 k1 k2
                  go_wp2
                  go_quiet (fail)
                  clear w9 hk0
                  go_wp2
                  go_roundw
                  case rel => exact ⟨j + 1, by omega, by go_num, below_drewN hBj _⟩
                  case measure => simp [intOf]; omega
                · have hb2 : ((j : Int) + 1 == X) = false := by rw [beq_eq_false_iff_ne]; exact k2
                  have huv : ((sA[j].toNat : Int) != (sB[j].toNat : Int)) = false := by rw [bne_eq_false_iff_eq]; exact key2.2 (fun q => q.elim k1 k2)
                  clear key2 k1 k2
                  go_wp2
                  go_quiet (fail)
                  clear w9 hk0
                  go_wp2
                  go_roundw
                  case rel => exact ⟨j + 1, by omega, by go_num, below_drewN hBj _⟩
                  case measure => simp [intOf]; omega
            · go_wp2_with fail
              refine (sameInts_same A a1 k k c c1 _ wr (x7.below hBj) (i7.below hBj)).mono ?_
              rintro e w8 ⟨rfl, b8⟩
              go_wp2_with fail
              refine (P6.out w8 a2 k c2 ((o7.below hBj).below b8).ints).mono ?_
              rintro e w9 ⟨rfl, b9⟩
              go_wp2_with fail
              go_ret
              have B8 := Below.call (B7.trans (hBj.mono B7.size)) (B7.trans (hBj.mono B7.size)).size b8
              exact ⟨rfl, Below.call B8 B8.size b9⟩
  · go_enter Try.func13, Try.ntmps13
    go_wp2_with fail
    go_ret
    exact ⟨rfl, Below.refl _ _⟩

end Go.Proofs.Ytgabegdoofolnaa
