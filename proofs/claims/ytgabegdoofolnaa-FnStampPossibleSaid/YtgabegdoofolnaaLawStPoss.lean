/-
  The walk through the law on StampPossible: it returns true.
-/
import Derived.Test.YtgabegdoofolnaaDraw4
namespace Go.Proofs.Ytgabegdoofolnaa
open Go.RowKit

theorem apart_new {a B B' : Option Addr} {W : World} (ha : AllLt a W.heap.size) (hne : ∀ x y, a = some x → B = some y → x.block ≠ y.block) (e : B' = B ∨ B' = some ⟨W.heap.size, 0, none⟩) : ∀ x y, a = some x → B' = some y → x.block ≠ y.block := by
  intro x y hx hy
  rcases e with e | e
  · exact hne x y hx (e ▸ hy)
  · rw [e] at hy
    cases hy
    exact Nat.ne_of_lt (ha x hx)
theorem apart_symm {a B : Option Addr} (hne : ∀ x y, a = some x → B = some y → x.block ≠ y.block) : ∀ x y, B = some x → a = some y → x.block ≠ y.block := fun x y hx hy e => hne y x hy hx e.symm
theorem filter_snoc_yes {xs : List Int} {p : Int → Bool} {k : Nat} (h : k < xs.length) (hp : p (xs[k]?.getD 0) = true) : (xs.take (k + 1)).filter p = (xs.take k).filter p ++ [xs[k]?.getD 0] := filterR_yes p xs k 0 h hp
theorem filter_snoc_no {xs : List Int} {p : Int → Bool} {k : Nat} (h : k < xs.length) (hp : p (xs[k]?.getD 0) = false) : (xs.take (k + 1)).filter p = (xs.take k).filter p := filterR_no p xs k 0 h hp

set_option maxRecDepth 100000 in
set_option maxHeartbeats 2000000 in
theorem law_FnStampPossible (w : World) (a : Option Addr) (n cap : Nat) (bs : List Int) (hx : Bytes w a n cap bs) :
    Calls Try.prog 12 #[.slice a n cap] w (RVal w (.bool true)) := by
  have hle := hx.1.le
  have hmx := hx.1.max
  unfold maxLen at hmx
  by_cases hn : n ≤ 1048576
  · have H1 := Lib.hid (spec_DrawStampPossible a n cap bs w hx)
    go_enter Try.func12, Try.ntmps12
    go_wp2_with fail
    refine H1.out.mono ?_
    rintro e w1 ⟨a1, n1, c1, xs, rfl, i1, hn1, b1⟩
    have hle1 := i1.le_cap
    have HL1 := Lib.hid i1.length
    have P1 := impl_StampPossible a1 n1 c1 xs
    have P2 := spec_StampPossible a1 n1 c1 xs
    cases hv : possB xs with
    | false =>
      rw [hv] at P1 P2
      have P1 := Lib.hid P1
      have P2 := Lib.hid P2
      clear hv
      go_wp2_with fail
      refine (P1.out w1 i1).mono ?_
      rintro e w2 ⟨rfl, b2⟩
      go_wp2_with fail
      refine (P2.out w2 (i1.below b2) (by omega)).mono ?_
      rintro e w3 ⟨rfl, b3⟩
      go_wp2_with fail
      go_ret
      have B2 := Below.call b1 b1.size b2
      exact ⟨rfl, Below.call B2 B2.size b3⟩
    | true =>
      rw [hv] at P1 P2
      have P1 := Lib.hid P1
      have P2 := Lib.hid P2
      have hl := possB_len hv
      rw [i1.length] at hl
      obtain ⟨hl1, hl7⟩ := hl
      have HU := Lib.hid (upI_possB hl1 hl7)
      have HLS : Hid (n1 ≠ 1 → possB (xs.filter fun x => decide (x < (n1 : Int) - 1)) = true) := fun h1 => by
        have := lessL_possB (n := n1 - 1) hv (by rw [i1.length]; omega) (by omega)
        unfold lessL at this
        rwa [i1.length] at this
      clear hv
      go_wp2_with fail
      refine (P1.out w1 i1).mono ?_
      rintro e w2 ⟨rfl, b2⟩
      go_wp2_with fail
      refine (P2.out w2 (i1.below b2) (by omega)).mono ?_
      rintro e w3 ⟨rfl, b3⟩
      have i3 := (i1.below b2).below b3
      have B2 := Below.call b1 b1.size b2
      have B3 := Below.call B2 B2.size b3
      clear i1 b2 b3 B2
      obtain ⟨b, off, rfl, hc⟩ := i3.cells (by omega)
      have HC := Lib.hid hc
      clear hc
      go_wp2_with fail
      go_loopw [7, 8, 9] (fun u v i wr => ∃ (k : Nat) (A : Option Addr) (q c : Nat) (B : Option Addr) (d : Nat), k ≤ n1 ∧ i = .int .i64 k ∧ u = .slice A q c ∧ v = .slice B k d ∧ OwnI wr w3.heap.size A q c ((xs.take k).filter fun x => decide (x < (n1 : Int) - 1)) ∧ OwnI wr w3.heap.size B k d (upI k) ∧ Below w3.heap.size w3 wr ∧ Hid (∀ x y, A = some x → B = some y → x.block ≠ y.block)) (fun _ _ i _ => n1 - (intOf i).toNat)
      case atStart => exact ⟨0, _, _, _, _, _, Nat.zero_le _, rfl, rfl, rfl, (OwnI.lit0 w3 (Nat.le_refl _)).below ((Below.refl _ _).alloc (Nat.le_refl _) _), OwnI.lit0' (w3.alloc (.cells #[] 3)) (by simp) (by simp), ((Below.refl _ _).alloc (Nat.le_refl _) _).alloc (by simp) _, fun x y hx hy => by cases hx; cases hy; simp⟩
      case round =>
        obtain ⟨k, A, q, c, B, d, hk, rfl, rfl, rfl, HA, HB, hB, HNE⟩ := hrel
        have hq : q ≤ n1 := by
          rw [← HA.length]
          refine Nat.le_trans (List.length_filter_le _ _) ?_
          rw [List.length_take, HL1.out]
          omega
        have hs := hB.size
        by_cases hlt : k < n1
        · have hck := HC.out k hlt
          have Hck := Lib.hid hck
          clear hck
          have HUP : Hid (upI (k + 1) = upI k ++ [(k : Int)]) := upI_succ k
          by_cases hls : xs[k]?.getD 0 < (n1 : Int) - 1
          · have HS := Lib.hid (filter_snoc_yes (p := fun x => decide (x < (n1 : Int) - 1)) (by rw [HL1.out]; exact hlt) (decide_eq_true hls))
            go_wp2_with (first
              | (at_builtin; refine wpList_append_int tyInts rfl (.tmp 38) (.tmp 40) rfl w3.heap.size B k d (upI k) rfl (HB.below ((Below.refl _ _).alloc (Nat.le_refl _) _)) wr.heap.size (k : Int) rfl (by simp) (by omega) (by simp; omega) ?_; intro B2 d2 w4 ob2 g2 e2; have b4 := Below.appended (hB.alloc hB.size _) (by simp; omega) g2 HB.base_le; have oa2 := (HA.below ((Below.refl _ _).alloc (Nat.le_refl _) _)).apart g2 HNE.out; have N2 := Lib.hid (apart_new (HA.below ((Below.refl _ _).alloc (Nat.le_refl _) _)).lt HNE.out e2); have ck4 := cell_below b4 Hck.out; have z4 := b4.size; clear e2 g2)
              | (at_builtin; refine wpList_append_int tyInts rfl (.tmp 49) (.tmp 54) rfl w3.heap.size A q c _ rfl (oa2.below ((Below.refl _ _).alloc (Nat.le_refl _) _)) w4.heap.size (xs[k]?.getD 0) rfl (by simp) (by omega) (by simp; omega) ?_; intro A3 c3 w5 oa3 g3 e3; have b5 := Below.appended (b4.alloc b4.size _) (by simp; omega) g3 oa2.base_le; have ob3 := (ob2.below ((Below.refl _ _).alloc (Nat.le_refl _) _)).apart g3 (apart_symm N2.out); have N3 := Lib.hid (apart_symm (apart_new (ob2.below ((Below.refl _ _).alloc (Nat.le_refl _) _)).lt (apart_symm N2.out) e3)); clear e3 g3))
            go_roundw
            case rel => exact ⟨k + 1, A3, q + 1, c3, B2, d2, by omega, by go_num, rfl, rfl, by rw [HS.out]; exact oa3, by rw [HUP.out]; exact ob3, b5, N3⟩
            case measure => simp [intOf]; omega
          · have HS := Lib.hid (filter_snoc_no (p := fun x => decide (x < (n1 : Int) - 1)) (by rw [HL1.out]; exact hlt) (decide_eq_false hls))
            go_wp2_with (first
              | (at_builtin; refine wpList_append_int tyInts rfl (.tmp 38) (.tmp 40) rfl w3.heap.size B k d (upI k) rfl (HB.below ((Below.refl _ _).alloc (Nat.le_refl _) _)) wr.heap.size (k : Int) rfl (by simp) (by omega) (by simp; omega) ?_; intro B2 d2 w4 ob2 g2 e2; have b4 := Below.appended (hB.alloc hB.size _) (by simp; omega) g2 HB.base_le; have oa2 := (HA.below ((Below.refl _ _).alloc (Nat.le_refl _) _)).apart g2 HNE.out; have N2 := Lib.hid (apart_new (HA.below ((Below.refl _ _).alloc (Nat.le_refl _) _)).lt HNE.out e2); have ck4 := cell_below b4 Hck.out; have z4 := b4.size; clear e2 g2))
            go_roundw
            case rel => exact ⟨k + 1, A, q, c, B2, d2, by omega, by go_num, rfl, rfl, by rw [HS.out]; exact oa2, by rw [HUP.out]; exact ob2, b4, N2⟩
            case measure => simp [intOf]; omega
        · obtain rfl : k = n1 := by omega
          rw [take_allI xs k (by rw [HL1.out]; omega)] at HA
          have P5 := impl_StampPossible B k d (upI k)
          rw [HU.out] at P5
          have P5 := Lib.hid P5
          have B4 := B3.trans (hB.mono B3.size)
          by_cases h1 : k = 1
          · have h1b : ((k : Int) == 1) = true := by rw [beq_iff_eq]; omega
            clear h1
            go_wp2_with fail
            refine (P5.out wr HB.ints).mono ?_
            rintro e w5 ⟨rfl, b5⟩
            go_wp2_with fail
            go_ret
            exact ⟨rfl, Below.call B4 B4.size b5⟩
          · have h1b : ((k : Int) == 1) = false := by rw [beq_eq_false_iff_ne]; omega
            have P6 := impl_StampPossible A q c (xs.filter fun x => decide (x < (k : Int) - 1)) wr HA.ints
            rw [HLS.out h1] at P6
            clear h1
            go_wp2_with fail
            refine P6.mono ?_
            clear P6
            rintro e w5 ⟨rfl, b5⟩
            go_wp2_with fail
            refine (P5.out w5 (HB.below b5).ints).mono ?_
            rintro e w6 ⟨rfl, b6⟩
            go_wp2_with fail
            go_ret
            have B5 := Below.call B4 B4.size b5
            exact ⟨rfl, Below.call B5 B5.size b6⟩
  · go_enter Try.func12, Try.ntmps12
    go_wp2_with fail
    go_ret
    exact ⟨rfl, Below.refl _ _⟩

end Go.Proofs.Ytgabegdoofolnaa
