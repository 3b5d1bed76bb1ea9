/-
  The walks through the laws FnTurn and FnCloses: they return true.
-/
import Derived.Test.YthlgagngeedgjaaDraw5
import Derived.Test.YthlgagngeedgjaaBack
import Derived.Test.YthlgagngeedgjaaHelp2
import Derived.Test.YthlgagngeedgjaaPlainV
namespace Go.Proofs.Ythlgagngeedgjaa
open Go.RowKit

theorem OwnI.head {w : World} {base : Nat} {a : Option Addr} {n cap : Nat} {xs : List Int} (h : OwnI w base a n cap xs) (hn : 0 < n) : ∃ g, a = some ⟨g, 0, none⟩ ∧ base ≤ g ∧ g < w.heap.size := by
  rcases Own.form h with ⟨_, h0, _⟩ | ⟨g, rfl, hg1, hg2⟩
  · omega
  · exact ⟨g, rfl, hg1, hg2⟩

set_option maxRecDepth 100000 in
set_option maxHeartbeats 4000000 in
theorem law_FnTurn (w : World) (a : Option Addr) (n cap : Nat) (bs : List Int) (hx : Bytes w a n cap bs) : Calls Try.prog 6 #[.slice a n cap] w (RVal w (.bool true)) := by
  have hle := hx.1.le
  have hmx := hx.1.max
  unfold maxLen at hmx
  by_cases hn : n ≤ 1048576
  · have H1 := Lib.hid (spec_DrawAnglesTurn a n cap bs w hx)
    go_enter Try.func6, Try.ntmps6
    go_wp2_with fail
    refine H1.out.mono ?_
    rintro e w1 ⟨a1, n1, c1, xs, k, rfl, i1, hn1, hk1, b1⟩
    have hle1 := i1.le_cap
    have hmx1 := i1.cap_max
    have HL1 := Lib.hid i1.length
    by_cases hv : anglesB xs = true ∧ 0 ≤ k ∧ k < n1
    · obtain ⟨hv, hk0, hkn⟩ := hv
      obtain ⟨K, rfl⟩ := Int.eq_ofNat_of_zero_le hk0
      have hKn : K < n1 := by omega
      have P1 := Lib.hid (fun (W : World) (hW : Ints W a1 n1 c1 xs) => impl_AnglesTurn_yes a1 n1 c1 xs K W hW hv hKn)
      have P2 := Lib.hid (fun (W : World) (hW : Ints W a1 n1 c1 xs) => spec_AnglesTurn_yes a1 n1 c1 xs K W hW hv hKn)
      have hvt := anglesB_turn K hv
      have hvr := anglesB_rev hv
      have hl := anglesB_len hv
      rw [i1.length] at hl
      have hRlt : restN n1 K < n1 := restN_lt (by omega)
      have P3 : Hid (∀ (W : World) (A : Option Addr) (c : Nat) (v : Int), v = (restN n1 K : Int) → Ints W A n1 c (xs.drop K ++ xs.take K) → Calls Try.prog 28 #[.slice A n1 c, .int .i64 v] W (RIntsB W xs true)) := fun W A c v e hW => by
        have := impl_AnglesTurn_yes A n1 c _ (restN n1 K) W hW hvt hRlt
        have e2 := turn_back (xs := xs) (k := K) (by rw [i1.length]; exact hKn)
        rw [i1.length] at e2
        rw [e2] at this
        rw [e]
        exact this
      have P4 := Lib.hid (fun (W : World) (A : Option Addr) (c : Nat) (hW : Ints W A n1 c (xs.drop K ++ xs.take K)) => impl_AnglesBack_yes A n1 c _ W hW hvt)
      have P5 := Lib.hid (fun (W : World) (hW : Ints W a1 n1 c1 xs) => impl_AnglesBack_yes a1 n1 c1 xs W hW hv)
      have P6 : Hid (∀ (W : World) (A : Option Addr) (c : Nat) (v : Int), v = (restN n1 K : Int) → Ints W A n1 c xs.reverse → Calls Try.prog 28 #[.slice A n1 c, .int .i64 v] W (RIntsB W (xs.drop K ++ xs.take K).reverse true)) := fun W A c v e hW => by
        have := impl_AnglesTurn_yes A n1 c _ (restN n1 K) W hW hvr hRlt
        have e2 := turn_rev (xs := xs) (k := K) (by rw [i1.length]; exact hKn)
        rw [i1.length] at e2
        rw [e2] at this
        rw [e]
        exact this
      have HR1 := Lib.hid (restN_int (n := n1) (k := K) (by omega))
      have HR2 := Lib.hid (restN_neg (n := n1) (k := K) (by omega))
      have HT : Hid ((xs.drop K ++ xs.take K).length = n1) := (turn_length xs K).trans i1.length
      have hkI : (K : Int) ≤ (n1 : Int) := by omega
      have hn0 : (0 : Int) < (n1 : Int) := by omega
      have hn00 : ((n1 : Int) == 0) = false := by rw [beq_eq_false_iff_ne]; omega
      clear hv hvt hvr
      go_wp2_with fail
      refine (P1.out w1 i1).mono ?_
      rintro e w2 ⟨a2, n2, c2, rfl, o2, b2⟩
      obtain rfl : n1 = n2 := HT.out.symm.trans o2.length
      have B2 := Below.call b1 b1.size b2
      go_wp2_with fail
      refine (P2.out w2 (i1.below b2)).mono ?_
      rintro e w3 ⟨a3, n3, c3, rfl, o3, b3⟩
      have i3 := (i1.below b2).below b3
      have o23 := o2.below b3
      have B3 := Below.call B2 B2.size b3
      go_wp2_with fail
      refine (sameInts_same a2 a3 n1 n3 c2 c3 _ w3 o23.ints o3.ints).mono ?_
      rintro e w4 ⟨rfl, b4⟩
      have i4 := i3.below b4
      have o24 := o23.below b4
      have B4 := Below.call B3 B3.size b4
      clear o3 o2 o23 i3
      go_wp2_with fail
      refine (P3.out w4 a2 c2 _ (by first | exact HR1.out | exact HR2.out) o24.ints).mono ?_
      rintro e w5 ⟨a5, n5, c5, rfl, o5, b5⟩
      obtain rfl : n1 = n5 := HL1.out.symm.trans o5.length
      have i5 := i4.below b5
      have o25 := o24.below b5
      have B5 := Below.call B4 B4.size b5
      go_wp2_with fail
      refine (P4.out w5 a2 c2 o25.ints).mono ?_
      rintro e w6 ⟨a6, n6, c6, rfl, o6, b6⟩
      obtain rfl : n1 = n6 := by rw [← o6.length, List.length_reverse]; exact HT.out.symm
      have i6 := i5.below b6
      have o56 := o5.below b6
      have B6 := Below.call B5 B5.size b6
      clear o24 o25 o5 i4 i5
      go_wp2_with fail
      refine (P5.out w6 i6).mono ?_
      rintro e w7 ⟨a7, n7, c7, rfl, o7, b7⟩
      obtain rfl : n1 = n7 := by rw [← o7.length, List.length_reverse]; exact HL1.out.symm
      have i7 := i6.below b7
      have o57 := o56.below b7
      have o67 := o6.below b7
      have B7 := Below.call B6 B6.size b7
      go_wp2_with fail
      refine (P6.out w7 a7 c7 _ (by first | exact HR1.out | exact HR2.out) o7.ints).mono ?_
      rintro e w8 ⟨a8, n8, c8, rfl, o8, b8⟩
      have i8 := i7.below b8
      have o58 := o57.below b8
      have o68 := o67.below b8
      have B8 := Below.call B7 B7.size b8
      clear o56 o57 o67 i6 i7 o6 o7
      go_wp2_with fail
      refine (sameInts_same a5 a1 n1 n1 c5 c1 _ w8 o58.ints i8).mono ?_
      rintro e w9 ⟨rfl, b9⟩
      have B9 := Below.call B8 B8.size b9
      go_wp2_with fail
      refine (sameInts_same a6 a8 n1 n8 c6 c8 _ w9 (o68.below b9).ints (o8.below b9).ints).mono ?_
      rintro e w10 ⟨rfl, b10⟩
      go_wp2_with fail
      go_ret
      exact ⟨rfl, Below.call B9 B9.size b10⟩
    · have hv' : anglesB xs = false ∨ k < 0 ∨ (n1 : Int) ≤ k := by
        cases hb : anglesB xs with
        | false => exact .inl rfl
        | true => right; by_cases h0 : 0 ≤ k
                  · right; by_cases h1 : k < n1
                    · exact absurd ⟨hb, h0, h1⟩ hv
                    · omega
                  · left; omega
      have P1 := Lib.hid (fun (W : World) (hW : Ints W a1 n1 c1 xs) => impl_AnglesTurn_no a1 n1 c1 xs k W hW hv')
      have P2 := Lib.hid (fun (W : World) (hW : Ints W a1 n1 c1 xs) => spec_AnglesTurn_no a1 n1 c1 xs k W hW (by omega) hv')
      clear hv hv'
      go_wp2_with fail
      refine (P1.out w1 i1).mono ?_
      rintro e w2 ⟨a2, n2, c2, rfl, o2, b2⟩
      go_wp2_with fail
      refine (P2.out w2 (i1.below b2)).mono ?_
      rintro e w3 ⟨a3, n3, c3, rfl, o3, b3⟩
      go_wp2_with fail
      refine (sameInts_same a2 a3 n2 n3 c2 c3 _ w3 (o2.below b3).ints o3.ints).mono ?_
      rintro e w4 ⟨rfl, b4⟩
      go_wp2_with fail
      refine (sameInts_same a2 a3 n2 n3 c2 c3 _ w4 ((o2.below b3).below b4).ints (o3.below b4).ints).mono ?_
      rintro e w5 ⟨rfl, b5⟩
      go_wp2_with fail
      go_ret
      have B2 := Below.call b1 b1.size b2
      have B3 := Below.call B2 B2.size b3
      have B4 := Below.call B3 B3.size b4
      exact ⟨rfl, Below.call B4 B4.size b5⟩
  · go_enter Try.func6, Try.ntmps6
    go_wp2_with fail
    go_ret
    exact ⟨rfl, Below.refl _ _⟩

set_option maxRecDepth 100000 in
set_option maxHeartbeats 4000000 in
theorem law_FnCloses (w : World) (a : Option Addr) (n cap : Nat) (bs : List Int) (hx : Bytes w a n cap bs) (a' : Option Addr) (n' cap' : Nat) (bs' : List Int) (hx' : Bytes w a' n' cap' bs') :
    Calls Try.prog 7 #[.slice a n cap, .slice a' n' cap'] w (RVal w (.bool true)) := by
  have hle := hx.1.le
  have hmx := hx.1.max
  have hle' := hx'.1.le
  have hmx' := hx'.1.max
  unfold maxLen at hmx hmx'
  by_cases hn : n ≤ 1048576
  · by_cases hn' : n' ≤ 1048576
    · have H1 := Lib.hid (spec_DrawAnglesCloses a n cap bs w hx)
      go_enter Try.func7, Try.ntmps7
      go_wp2_with fail
      refine H1.out.mono ?_
      rintro e w1 ⟨a1, n1, c1, xs, rfl, i1, hn1, b1⟩
      have hle1 := i1.le_cap
      have hmx1 := i1.cap_max
      have HL1 := Lib.hid i1.length
      have P1 := impl_AnglesCloses a1 n1 c1 xs w1 i1 (by omega)
      have P2 := spec_AnglesCloses a1 n1 c1 xs w1 i1 (by omega)
      cases hv : closesB xs with
      | false =>
        rw [hv] at P1 P2
        have P1 := Lib.hid P1
        have P2 := Lib.hid P2
        clear hv
        go_wp2_with fail
        refine P1.out.mono ?_
        rintro e w2 ⟨rfl, rfl⟩
        go_wp2_with fail
        refine P2.out.mono ?_
        rintro e w2 ⟨rfl, rfl⟩
        go_wp2_with fail
        go_ret
        exact ⟨rfl, b1⟩
      | true =>
        rw [hv] at P1 P2
        have P1 := Lib.hid P1
        have P2 := Lib.hid P2
        have hva : anglesB xs = true ∧ alt xs = 0 := by unfold closesB at hv; simpa using hv
        obtain ⟨hva, hal⟩ := hva
        have hl := anglesB_len hva
        rw [i1.length] at hl
        have HEV := Lib.hid (fun k hk => ev_bd hva k hk)
        have HE2 := Lib.hid (ev_half hva hal)
        have hXlt : n' % n1 < n1 := Nat.mod_lt _ (by omega)
        have P3 : Hid (∀ (W : World) (v : Int), v = ((n' % n1 : Nat) : Int) → Ints W a1 n1 c1 xs → Calls Try.prog 28 #[.slice a1 n1 c1, .int .i64 v] W (RIntsB W (xs.drop (n' % n1) ++ xs.take (n' % n1)) true)) := fun W v e hW => by
          rw [e]; exact impl_AnglesTurn_yes a1 n1 c1 xs (n' % n1) W hW hva hXlt
        have P4 := Lib.hid (fun (W : World) (hW : Ints W a1 n1 c1 xs) => impl_AnglesBack_yes a1 n1 c1 xs W hW hva)
        have P5 : Hid (∀ (W : World) (A : Option Addr) (m c : Nat), m ≤ 10 → Ints W A m c (xs.drop (n' % n1) ++ xs.take (n' % n1)) → Calls Try.prog 33 #[.slice A m c] W fun e w' => e = .returned (.bool true) ∧ W = w') := fun W A m c hm hW => by
          have := impl_AnglesCloses A m c _ W hW (by omega)
          unfold closesB at this
          rw [anglesB_turn _ hva, alt_turn _ (by rw [i1.length]; omega) hal] at this
          exact this
        have P6 : Hid (∀ (W : World) (A : Option Addr) (m c : Nat), m ≤ 10 → Ints W A m c xs.reverse → Calls Try.prog 33 #[.slice A m c] W fun e w' => e = .returned (.bool true) ∧ W = w') := fun W A m c hm hW => by
          have := impl_AnglesCloses A m c _ W hW (by omega)
          unfold closesB at this
          rw [anglesB_rev hva, alt_rev, hal] at this
          simpa using this
        have P7 : Hid (∀ (W : World) (A : Option Addr) (m c : Nat), m ≤ 10 → Ints W A m c ((xs.set 0 (xs[0]?.getD 0 - 1)).set 1 (xs[1]?.getD 0 + 1)) → Calls Try.prog 33 #[.slice A m c] W fun e w' => e = .returned (.bool false) ∧ W = w') := fun W A m c hm hW => by
          have := impl_AnglesCloses A m c _ W hW (by omega)
          unfold closesB at this
          rw [alt_moved (by rw [i1.length]; omega), hal, show ((0 : Int) - 2 == 0) = false from rfl, Bool.and_false] at this
          exact this
        have hin := ((anglesB_iff xs).1 hva).2.2.2.1
        have HIN := Lib.hid hin
        clear hv hva hal hin
        go_wp2_with fail
        refine P1.out.mono ?_
        rintro e w2 ⟨rfl, rfl⟩
        go_wp2_with fail
        refine P2.out.mono ?_
        rintro e w2 ⟨rfl, rfl⟩
        go_wp2_with fail
        go_loop [8, 9] (fun s i => ∃ k : Nat, k ≤ n1 ∧ k % 2 = 0 ∧ i = .int .i64 k ∧ s = .int .i64 (evTo xs k)) (fun _ i => n1 - (intOf i).toNat)
        case atStart => exact ⟨0, Nat.zero_le _, rfl, rfl, rfl⟩
        case round =>
          obtain ⟨k, hk, hk2, rfl, rfl⟩ := hrel
          have he := HEV.out k (by rw [HL1.out]; exact hk)
          by_cases hlt : k < n1
          · obtain ⟨b, off, rfl, hc⟩ := i1.cells (by omega)
            have hck := hc k hlt
            have hxk := allIn_get HIN.out k (by rw [HL1.out]; exact hlt)
            have HS := Lib.hid (ev_two (xs := xs) hk2)
            clear hc
            go_wp2
            go_round
            case rel => exact ⟨k + 2, by omega, by omega, by go_num, by rw [HS.out]⟩
            case measure => simp [intOf]; omega
          · obtain rfl : k = n1 := by omega
            have hE : evTo xs k = 180 := by have := HE2.out; rw [HL1.out] at this; omega
            rw [hE]
            clear hE he HE2
            have hn0 : (0 : Int) < (k : Int) := by omega
            have hn00 : ((k : Int) == 0) = false := by rw [beq_eq_false_iff_ne]; omega
            go_wp2_with fail
            refine (P3.out w1 _ (by first | rfl | (rw [Int.tmod_eq_emod_of_nonneg (by omega)]; rfl)) i1).mono ?_
            rintro e w2 ⟨a2, n2, c2, rfl, o2, b2⟩
            obtain rfl : k = n2 := by rw [← o2.length, turn_length]; exact HL1.out.symm
            have i2 := i1.below b2
            have B2 := Below.call b1 b1.size b2
            go_wp2_with fail
            refine (P4.out w2 i2).mono ?_
            rintro e w3 ⟨a3, n3, c3, rfl, o3, b3⟩
            obtain rfl : k = n3 := by rw [← o3.length, List.length_reverse]; exact HL1.out.symm
            have i3 := i2.below b3
            have o23 := o2.below b3
            have B3 := Below.call B2 B2.size b3
            have h1k : (1 : Int) < (k : Int) := by omega
            have h0n : 0 < k := by omega
            have h1n : 1 < k := by omega
            have x0 := allIn_get HIN.out 0 (by rw [HL1.out]; omega)
            have x1 := allIn_get HIN.out 1 (by rw [HL1.out]; omega)
            go_wp2_with (at_builtin; refine wpList_append_ints tyInts rfl (.tmp 66) (.tmp 67) rfl w3.heap.size (some ⟨w3.heap.size, 0, none⟩) 0 0 [] rfl (OwnI.lit0 w3 (Nat.le_refl _)) a1 k c1 xs rfl (i3.below ((Below.refl _ _).alloc (Nat.le_refl _) _)) (by omega) (by simp) ?_; intro A4 c4 w4 o4 g4 e4; simp only [Nat.zero_add, List.nil_append] at o4; obtain ⟨g, rfl, hg1, hg2⟩ := OwnI.head o4 h0n; have z0 := o4.cell (j := 0) (by omega); have z1 := o4.cell (j := 1) (by omega); have f0 := o4.frozen 0; have f1 := o4.frozen 1; have hgk : k ≤ c4 := o4.ints.le_cap)
            have b4 : Below w3.heap.size w3 w4 := Below.appended ((Below.refl _ _).alloc (Nat.le_refl _) (.cells #[] 3)) (by simp) g4 (fun x e => by cases e; exact Nat.le_refl _)
            have B4 := Below.call B3 B3.size b4
            have o24 := o23.below b4
            have o34 := o3.below b4
            clear g4 e4
            have o5 := (o4.stored 0 (xs[0]?.getD 0 - 1)).stored 1 (xs[1]?.getD 0 + 1)
            have B5 : Below w.heap.size w ((w4.setCell ⟨g, 0, none⟩ (.int .i64 (xs[0]?.getD 0 - 1))).setCell ⟨g, 1, none⟩ (.int .i64 (xs[1]?.getD 0 + 1))) := (B4.setCell (p := ⟨g, 0, none⟩) (by have := B3.size; simp only; omega) _).setCell (p := ⟨g, 1, none⟩) (by have := B3.size; simp only; omega) _
            have o25 := (o24.put_other (g := g) (k := 0) (.int .i64 (xs[0]?.getD 0 - 1)) (fun x hx => by have := o23.lt x hx; omega)).put_other (g := g) (k := 1) (.int .i64 (xs[1]?.getD 0 + 1)) (fun x hx => by have := o23.lt x hx; omega)
            have o35 := (o34.put_other (g := g) (k := 0) (.int .i64 (xs[0]?.getD 0 - 1)) (fun x hx => by have := o3.lt x hx; omega)).put_other (g := g) (k := 1) (.int .i64 (xs[1]?.getD 0 + 1)) (fun x hx => by have := o3.lt x hx; omega)
            go_wp2_with fail
            refine (P5.out _ a2 k c2 hn1 o25.ints).mono ?_
            rintro e w6 ⟨rfl, rfl⟩
            go_wp2_with fail
            refine (P6.out _ a3 k c3 hn1 o35.ints).mono ?_
            rintro e w6 ⟨rfl, rfl⟩
            go_wp2_with fail
            refine (P7.out _ _ k c4 hn1 o5.ints).mono ?_
            rintro e w6 ⟨rfl, rfl⟩
            go_wp2_with fail
            go_ret
            exact ⟨rfl, B5⟩
    · go_enter Try.func7, Try.ntmps7
      go_wp2_with fail
      go_ret
      exact ⟨rfl, Below.refl _ _⟩
  · go_enter Try.func7, Try.ntmps7
    go_wp2_with fail
    go_ret
    exact ⟨rfl, Below.refl _ _⟩

end Go.Proofs.Ythlgagngeedgjaa
