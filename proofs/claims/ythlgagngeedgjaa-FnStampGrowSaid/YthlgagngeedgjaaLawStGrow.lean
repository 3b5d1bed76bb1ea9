/-
  The walk through the law FnStampGrow: it returns true.
-/
import Derived.Test.YthlgagngeedgjaaLawStPoss
import Derived.Test.YthlgagngeedgjaaSMany
import Derived.Test.YthlgagngeedgjaaPlainH
namespace Go.Proofs.Ythlgagngeedgjaa
open Go.RowKit

theorem Ints.lit2 (w : World) (x y : Int) : Ints (w.alloc (.cells #[.int .i64 x, .int .i64 y] 3)) (some ⟨w.heap.size, 0, none⟩) 2 2 [x, y] :=
  Ints.mk' rfl (Nat.le_refl _) (by unfold maxLen; omega) fun i hi => by
    match i, hi with
    | 0, _ => simp
    | 1, _ => simp
theorem Ints.lit1 (w : World) (x : Int) : Ints (w.alloc (.cells #[.int .i64 x] 3)) (some ⟨w.heap.size, 0, none⟩) 1 1 [x] :=
  Ints.mk' rfl (Nat.le_refl _) (by unfold maxLen; omega) fun i hi => by
    obtain rfl : i = 0 := by omega
    simp

set_option maxRecDepth 100000 in
set_option maxHeartbeats 4000000 in
theorem law_FnStampGrow (w : World) (a : Option Addr) (n cap : Nat) (bs : List Int) (hx : Bytes w a n cap bs) : Calls Try.prog 5 #[.slice a n cap] w (RVal w (.bool true)) := by
  have hle := hx.1.le
  have hmx := hx.1.max
  unfold maxLen at hmx
  by_cases hn : n ≤ 1048576
  · have H1 := Lib.hid (spec_DrawStampPossible a n cap bs w hx)
    go_enter Try.func5, Try.ntmps5
    go_wp2_with fail
    refine H1.out.mono ?_
    rintro e w1 ⟨a1, n1, c1, xs, rfl, i1, hn1, b1⟩
    have hle1 := i1.le_cap
    have HL1 := Lib.hid i1.length
    have P1 := impl_StampPossible a1 n1 c1 xs
    have P2 := spec_StampPossible a1 n1 c1 xs
    cases hv : possB xs with
    | false =>
      rw [hv] at P1 P2
      have P1 := Lib.hid P1
      have P2 := Lib.hid P2
      clear hv
      go_wp2_with fail
      refine (P1.out w1 i1).mono ?_
      rintro e w2 ⟨rfl, b2⟩
      go_wp2_with fail
      refine (P2.out w2 (i1.below b2) (by omega)).mono ?_
      rintro e w3 ⟨rfl, b3⟩
      go_wp2_with fail
      go_ret
      have B2 := Below.call b1 b1.size b2
      exact ⟨rfl, Below.call B2 B2.size b3⟩
    | true =>
      rw [hv] at P1 P2
      have P1 := Lib.hid P1
      have P2 := Lib.hid P2
      have hl := possB_len hv
      have hp := possB_perm hv
      have HA7 := Lib.hid (grow_above hp hl.1)
      have HB7 := Lib.hid (grow_below hp hl.1)
      have HGA := Lib.hid (fun h6 => grow_possB hv h6 (.inr rfl))
      have HGB := Lib.hid (fun h6 => grow_possB hv h6 (.inl rfl))
      rw [i1.length] at hl HA7 HB7
      obtain ⟨hl1, hl7⟩ := hl
      have HA7 := Lib.hid HA7.out
      clear hv hp
      go_wp2_with fail
      refine (P1.out w1 i1).mono ?_
      rintro e w2 ⟨rfl, b2⟩
      go_wp2_with fail
      refine (P2.out w2 (i1.below b2) (by omega)).mono ?_
      rintro e w3 ⟨rfl, b3⟩
      have i3 := (i1.below b2).below b3
      have B2 := Below.call b1 b1.size b2
      have B3 := Below.call B2 B2.size b3
      clear i1 b2 b3 B2
      obtain ⟨b, off, rfl, hc⟩ := i3.cells (by omega)
      have HC := Lib.hid hc
      clear hc
      by_cases h7 : n1 = 7
      · have h7b : ((n1 : Int) == 7) = true := by rw [beq_iff_eq]; omega
        clear h7
        go_wp2_with fail
        go_ret
        exact ⟨rfl, B3⟩
      · have h7b : ((n1 : Int) == 7) = false := by rw [beq_eq_false_iff_ne]; omega
        have h6 : n1 ≤ 6 := by omega
        clear h7
        go_wp2_with fail
        go_loopw [7, 8, 9] (fun u v i wr => ∃ (k : Nat) (A : Option Addr) (q c : Nat) (B : Option Addr) (p d : Nat), k ≤ n1 ∧ i = .int .i64 k ∧ u = .slice A q c ∧ v = .slice B p d ∧ q ≤ 2 * k ∧ p ≤ 2 * k ∧ OwnI wr w3.heap.size A q c (growTo ((n1 : Int) - 1) [(n1 : Int) - 1, (n1 : Int)] xs k) ∧ OwnI wr w3.heap.size B p d (growTo ((n1 : Int) - 1) [(n1 : Int), (n1 : Int) - 1] xs k) ∧ Below w3.heap.size w3 wr ∧ Hid (∀ x y, A = some x → B = some y → x.block ≠ y.block)) (fun _ _ i _ => n1 - (intOf i).toNat)
        case atStart => exact ⟨0, _, _, _, _, _, _, Nat.zero_le _, rfl, rfl, rfl, Nat.zero_le _, Nat.zero_le _, (OwnI.lit0 w3 (Nat.le_refl _)).below ((Below.refl _ _).alloc (Nat.le_refl _) _), OwnI.lit0' (w3.alloc (.cells #[] 3)) (by simp) (by simp), ((Below.refl _ _).alloc (Nat.le_refl _) _).alloc (by simp) _, fun x y hx hy => by cases hx; cases hy; simp⟩
        case round =>
          obtain ⟨k, A, q, c, B, p, d, hk, rfl, rfl, rfl, hq, hp, HA, HB, hB, HNE⟩ := hrel
          have hs := hB.size
          by_cases hlt : k < n1
          · have hck := cell_below hB (HC.out k hlt)
            have Hck := Lib.hid (HC.out k hlt)
            by_cases he : xs[k]?.getD 0 = (n1 : Int) - 1
            · have heb : (xs[k]?.getD 0 == (n1 : Int) - 1) = true := by rw [beq_iff_eq]; exact he
              have HSA := Lib.hid (growTo_yes (p := [(n1 : Int) - 1, (n1 : Int)]) (by rw [HL1.out]; exact hlt) he)
              have HSB := Lib.hid (growTo_yes (p := [(n1 : Int), (n1 : Int) - 1]) (by rw [HL1.out]; exact hlt) he)
              clear he
              go_wp2_with (first
                | (at_builtin; refine wpList_append_ints tyInts rfl (.tmp 47) (.tmp 51) rfl w3.heap.size A q c _ rfl (HA.below ((Below.refl _ _).alloc (Nat.le_refl _) _)) (some ⟨wr.heap.size, 0, none⟩) 2 2 [(n1 : Int) - 1, (n1 : Int)] rfl (Ints.lit2 wr _ _) (by omega) (by simp; omega) ?_; intro A2 c2 w4 oa2 g2 e2; have b4 := Below.appended (hB.alloc hB.size _) (by simp; omega) g2 HA.base_le; have ob2 := (HB.below ((Below.refl _ _).alloc (Nat.le_refl _) _)).apart g2 (apart_symm HNE.out); have N2 := Lib.hid (apart_symm (apart_new (HB.below ((Below.refl _ _).alloc (Nat.le_refl _) _)).lt (apart_symm HNE.out) e2)); have z4 := b4.size; clear e2 g2)
                | (at_builtin; refine wpList_append_ints tyInts rfl (.tmp 53) (.tmp 57) rfl w3.heap.size B p d _ rfl (ob2.below ((Below.refl _ _).alloc (Nat.le_refl _) _)) (some ⟨w4.heap.size, 0, none⟩) 2 2 [(n1 : Int), (n1 : Int) - 1] rfl (Ints.lit2 w4 _ _) (by omega) (by simp; omega) ?_; intro B3 d3 w5 ob3 g3 e3; have b5 := Below.appended (b4.alloc b4.size _) (by simp; omega) g3 ob2.base_le; have oa3 := (oa2.below ((Below.refl _ _).alloc (Nat.le_refl _) _)).apart g3 N2.out; have N3 := Lib.hid (apart_new (oa2.below ((Below.refl _ _).alloc (Nat.le_refl _) _)).lt N2.out e3); clear e3 g3))
              go_roundw
              case rel => exact ⟨k + 1, A2, q + 2, c2, B3, p + 2, d3, by omega, by go_num, rfl, rfl, by omega, by omega, by rw [HSA.out]; exact oa3, by rw [HSB.out]; exact ob3, b5, N3⟩
              case measure => simp [intOf]; omega
            · have heb : (xs[k]?.getD 0 == (n1 : Int) - 1) = false := by rw [beq_eq_false_iff_ne]; exact he
              have HSA := Lib.hid (growTo_no (p := [(n1 : Int) - 1, (n1 : Int)]) (by rw [HL1.out]; exact hlt) he)
              have HSB := Lib.hid (growTo_no (p := [(n1 : Int), (n1 : Int) - 1]) (by rw [HL1.out]; exact hlt) he)
              clear he
              go_wp2_with (first
                | (at_builtin; refine wpList_append_ints tyInts rfl (.tmp 59) (.tmp 64) rfl w3.heap.size A q c _ rfl (HA.below ((Below.refl _ _).alloc (Nat.le_refl _) _)) (some ⟨wr.heap.size, 0, none⟩) 1 1 [xs[k]?.getD 0] rfl (Ints.lit1 wr _) (by omega) (by simp; omega) ?_; intro A2 c2 w4 oa2 g2 e2; have b4 := Below.appended (hB.alloc hB.size _) (by simp; omega) g2 HA.base_le; have ob2 := (HB.below ((Below.refl _ _).alloc (Nat.le_refl _) _)).apart g2 (apart_symm HNE.out); have N2 := Lib.hid (apart_symm (apart_new (HB.below ((Below.refl _ _).alloc (Nat.le_refl _) _)).lt (apart_symm HNE.out) e2)); have z4 := b4.size; have ck4 := cell_below b4 Hck.out; clear e2 g2)
                | (at_builtin; refine wpList_append_ints tyInts rfl (.tmp 66) (.tmp 71) rfl w3.heap.size B p d _ rfl (ob2.below ((Below.refl _ _).alloc (Nat.le_refl _) _)) (some ⟨w4.heap.size, 0, none⟩) 1 1 [xs[k]?.getD 0] rfl (Ints.lit1 w4 _) (by omega) (by simp; omega) ?_; intro B3 d3 w5 ob3 g3 e3; have b5 := Below.appended (b4.alloc b4.size _) (by simp; omega) g3 ob2.base_le; have oa3 := (oa2.below ((Below.refl _ _).alloc (Nat.le_refl _) _)).apart g3 N2.out; have N3 := Lib.hid (apart_new (oa2.below ((Below.refl _ _).alloc (Nat.le_refl _) _)).lt N2.out e3); clear e3 g3))
              go_roundw
              case rel => exact ⟨k + 1, A2, q + 1, c2, B3, p + 1, d3, by omega, by go_num, rfl, rfl, by omega, by omega, by rw [HSA.out]; exact oa3, by rw [HSB.out]; exact ob3, b5, N3⟩
              case measure => simp [intOf]; omega
          · obtain rfl : k = n1 := by omega
            rw [HA7.out] at HA
            rw [HB7.out] at HB
            have P5 := impl_StampPossible A q c _ wr HA.ints
            rw [HGA.out (by rw [HL1.out]; exact h6)] at P5
            have P6 := Lib.hid (HGB.out (by rw [HL1.out]; exact h6))
            have P5 := Lib.hid P5
            have B4 := B3.trans (hB.mono B3.size)
            go_wp2_with fail
            refine P5.out.mono ?_
            rintro e w5 ⟨rfl, b5⟩
            have P7 := impl_StampPossible B p d _ w5 (HB.below b5).ints
            rw [P6.out] at P7
            have P7 := Lib.hid P7
            have B5 := Below.call B4 B4.size b5
            by_cases h5 : k ≤ 5
            · have h5n : ¬ (5 : Int) < (k : Int) := by omega
              have M1 := manyI_yes (n := k) (by omega) (by omega)
              have M2 := manyI_yes (n := k + 1) (by omega) (by omega)
              have hg := grow_many (n := k) (by omega) (by omega)
              have hs1 := stacks_small (n := k) (by omega)
              have hs2 := stacks_small (n := k + 1) (by omega)
              generalize hS1 : (stacks k).length = S1 at M1 hg hs1
              generalize hS2 : (stacks (k + 1)).length = S2 at M2 hg hs2
              clear hS1 hS2
              have hgi : (2 : Int) * (S1 : Int) ≤ (S2 : Int) := by omega
              have hg1 : (S1 : Int) ≤ 823543 := by omega
              have hg2 : (S2 : Int) ≤ 823543 := by omega
              have hgd : decide ((2 : Int) * (S1 : Int) ≤ (S2 : Int)) = true := decide_eq_true hgi
              rw [show ((k + 1 : Nat) : Int) = (k : Int) + 1 by omega] at M2
              have M1 := Lib.hid M1
              have M2 := Lib.hid M2
              go_wp2_with fail
              refine P7.out.mono ?_
              rintro e w6 ⟨rfl, b6⟩
              have B6 := Below.call B5 B5.size b6
              go_wp2_with fail
              have Q1 := impl_StampMany ((k : Int) + 1) w6
              rw [M2.out] at Q1
              refine Q1.mono ?_
              clear Q1
              rintro e w7 ⟨rfl, b7⟩
              have B7 := Below.call B6 B6.size b7
              go_wp2_with fail
              have Q2 := impl_StampMany (k : Int) w7
              rw [M1.out] at Q2
              refine Q2.mono ?_
              clear Q2
              rintro e w8 ⟨rfl, b8⟩
              have B8 := Below.call B7 B7.size b8
              go_wp2_with fail
              go_ret
              exact ⟨rfl, B8⟩
            · have h5n : (5 : Int) < (k : Int) := by omega
              go_wp2_with fail
              refine P7.out.mono ?_
              rintro e w6 ⟨rfl, b6⟩
              have B6 := Below.call B5 B5.size b6
              go_wp2_with fail
              go_ret
              exact ⟨rfl, B6⟩
  · go_enter Try.func5, Try.ntmps5
    go_wp2_with fail
    go_ret
    exact ⟨rfl, Below.refl _ _⟩

end Go.Proofs.Ythlgagngeedgjaa
