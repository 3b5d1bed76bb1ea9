/-
  What the drawing of angles hands back: some list, short.
-/
import Derived.Test.YthlgagngeedgjaaMemX
import Derived.Test.YthlgagngeedgjaaDraw3
namespace Go.Proofs.Ythlgagngeedgjaa
open Go.RowKit

def lit6 : List Int := [15, 30, 20, 45, 10, 36]
/-- What l91Angles hands back. -/
def RAng (w : World) (g p q : Nat) (e : Ending) (w' : World) : Prop := ∃ (a : Option Addr) (n cap : Nat) (xs : List Int), e = .returned (.slice a n cap) ∧ Ints w' a n cap xs ∧ n ≤ 10 ∧ (∃ p', p' ≤ p + q ∧ Rd w' g p') ∧ w.grownBy w' (some g) ∧ (0 < n → ∀ x, a = some x → x.block ≠ g)

set_option maxRecDepth 100000 in
set_option maxHeartbeats 4000000 in
theorem spec_l91Angles (g p : Nat) (w : World) (h : Rd w g p) (hp : p ≤ 1000) :
    Calls Try.prog 73 #[.pointer (some ⟨g, 0, none⟩), .int .i64 10] w (RAng w g p 30) := by
  have hgw := h.lt
  have H1 := Lib.hid (spec_pick g p 5 w h (by omega) (by omega) (by omega))
  have HP := Lib.hid (fun (P : Nat) (n : Int) (W : World) (hr : Rd W g P) (q1 : P ≤ 100000) (q2 : 1 ≤ n) (q3 : n ≤ 1000000) => spec_pick g P n W hr q1 q2 q3)
  go_enter Try.func73, Try.ntmps73
  go_wp2_with fail
  refine H1.out.mono ?_
  clear H1
  rintro e w1 ⟨x, rfl, ⟨hx0, hx1⟩, r1, g1⟩
  obtain ⟨X, rfl⟩ := Int.eq_ofNat_of_zero_le hx0
  have hX : X ≤ 4 := by omega
  have z1 := g1.4
  go_wp2_with (at_make; refine wpList_make_ints tyInts rfl _ _ rfl w.heap.size _ _ (2 * (1 + X)) rfl rfl (by omega) (by omega) (by omega) z1 ?_; intro w2 hown hg)
  have r2 := r1.below ((Below.refl _ _).grown hg (Nat.le_refl _) (by simp))
  have G2 := grown_trans g1 (grown_below ((Below.refl _ _).grown hg (Nat.le_refl _) (by simp)) (some g))
  have hgo : g < w1.heap.size := r1.lt
  have hbo : w.heap.size ≤ w1.heap.size := z1
  clear hg
  go_loopw [7] (fun s wr => ∃ (S : Nat) (xs : List Int), S ≤ 2 ∧ s = .int .i64 S ∧ OwnI wr w.heap.size (some ⟨w1.heap.size, 0, none⟩) (2 * (1 + X)) (2 * (1 + X)) xs ∧ (∃ p', p' ≤ p + 1 + 5 * S ∧ Rd wr g p') ∧ w.grownBy wr (some g)) (fun s _ => 2 - (intOf s).toNat)
  case atStart => exact ⟨0, _, by omega, rfl, hown, ⟨p + 1, by omega, r2⟩, G2⟩
  case round =>
    obtain ⟨S, xs, hS, rfl, HO, ⟨p3, hp3, r3⟩, G3⟩ := hrel
    obtain ⟨wo, rfl⟩ : ∃ wo : World, wo = wr := ⟨_, rfl⟩
    by_cases hlt : S < 2
    · have hltI : (S : Int) < 2 := by omega
      go_wp2_with fail
      go_loopw [8, 9] (fun r i wr => ∃ (k : Nat) (rr : Int) (xs : List Int), k ≤ 1 + X ∧ i = .int .i64 k ∧ r = .int .i64 rr ∧ (-45 ≤ rr ∧ rr ≤ 180) ∧ (k ≤ X → 180 - 45 * (k : Int) ≤ rr) ∧ OwnI wr w.heap.size (some ⟨w1.heap.size, 0, none⟩) (2 * (1 + X)) (2 * (1 + X)) xs ∧ (∃ p', p' ≤ p + 1 + 5 * S + k ∧ Rd wr g p') ∧ w.grownBy wr (some g)) (fun _ i _ => 1 + X - (intOf i).toNat)
      case atStart => exact ⟨0, 180, xs, Nat.zero_le _, rfl, rfl, by omega, fun _ => by omega, HO, ⟨p3, by omega, r3⟩, G3⟩
      case round =>
        obtain ⟨k, rr, ys, hk, rfl, rfl, hr, hr2, HO2, ⟨p4, hp4, r4⟩, G4⟩ := hrel
        by_cases hlt2 : k < 1 + X
        · by_cases hkX : k < X
          · have r4' := r4.below ((Below.refl _ _).alloc (Nat.le_refl _) (.cells #[.int .i64 15, .int .i64 30, .int .i64 20, .int .i64 45, .int .i64 10, .int .i64 36] 3))
            have hlit : ∀ Z : Nat, Z < 6 → ∃ v : Int, (10 ≤ v ∧ v ≤ 45) ∧ (wr.alloc (.cells #[.int .i64 15, .int .i64 30, .int .i64 20, .int .i64 45, .int .i64 10, .int .i64 36] 3)).cell? ⟨wr.heap.size, Z, none⟩ = some (.int .i64 v) := fun Z hZ => by
              match Z, hZ with
              | 0, _ => exact ⟨15, by omega, by simp⟩
              | 1, _ => exact ⟨30, by omega, by simp⟩
              | 2, _ => exact ⟨20, by omega, by simp⟩
              | 3, _ => exact ⟨45, by omega, by simp⟩
              | 4, _ => exact ⟨10, by omega, by simp⟩
              | 5, _ => exact ⟨36, by omega, by simp⟩
            have HLIT := Lib.hid hlit
            clear hlit
            have H4 := Lib.hid (HP.out p4 6 _ r4' (by omega) (by omega) (by omega))
            have hrX := hr2 (by omega)
            have hk1 : (k : Int) + 1 < 1 + (X : Int) := by omega
            go_wp2_with fail
            refine H4.out.mono ?_
            rintro e w4 ⟨z, rfl, ⟨hz0, hz1⟩, r5, g5⟩
            obtain ⟨Z, rfl⟩ := Int.eq_ofNat_of_zero_le hz0
            obtain ⟨v, ⟨hv1, hv2⟩, hv⟩ := HLIT.out Z (by omega)
            have hv4 : w4.cell? ⟨wr.heap.size, Z, none⟩ = some (.int .i64 v) := (World.cell?_of_block (a := ⟨wr.heap.size, Z, none⟩) (g5.5 wr.heap.size (World.block_lt_of_cell? _ _ hv) (by have := G4.4; intro q; cases q; omega))).trans hv
            clear hv
            have o5 := (HO2.below ((Below.refl _ _).alloc (Nat.le_refl _) (.cells #[.int .i64 15, .int .i64 30, .int .i64 20, .int .i64 45, .int .i64 10, .int .i64 36] 3))).asked g5 hgw
            have G5 := grown_trans (grown_trans G4 (grown_alloc wr (.cells #[.int .i64 15, .int .i64 30, .int .i64 20, .int .i64 45, .int .i64 10, .int .i64 36] 3) (some g))) g5
            have hgk := o5.cell (j := 2 * k + S) (by omega)
            have hfk := o5.frozen (2 * k + S)
            have hi1 : 2 * (k : Int) + (S : Int) < 2 * (1 + (X : Int)) := by omega
            have hi2 : 2 * k + S < 2 * (1 + X) := by omega
            go_wp2_with fail
            go_roundw
            case rel => exact ⟨k + 1, rr - v, _, by omega, by go_num, rfl, by omega, fun _ => by omega, o5.stored (2 * k + S) v, ⟨p4 + 1, by omega, r5.set (by omega)⟩, grown_set G5 hbo⟩
            case measure => simp [intOf]; omega
          · have hk1 : ¬ (k : Int) + 1 < 1 + (X : Int) := by omega
            have hgk := HO2.cell (j := 2 * k + S) (by omega)
            have hfk := HO2.frozen (2 * k + S)
            have hi1 : 2 * (k : Int) + (S : Int) < 2 * (1 + (X : Int)) := by omega
            have hi2 : 2 * k + S < 2 * (1 + X) := by omega
            go_wp2_with fail
            go_roundw
            case rel => exact ⟨k + 1, rr - rr, _, by omega, by go_num, by go_num, by omega, fun _ => by omega, HO2.stored (2 * k + S) rr, ⟨p4, by omega, r4.set (by omega)⟩, grown_set G4 hbo⟩
            case measure => simp [intOf]; omega
        · go_wp2_with fail
          go_roundw
          case rel => exact ⟨S + 1, ys, by omega, by go_num, HO2, ⟨p4, by omega, r4⟩, G4⟩
          case measure => simp [intOf]; omega
    · clear hown r2 G2 r1 g1
      have H5 := Lib.hid (HP.out p3 (2 * (1 + (X : Int))) wo r3 (by omega) (by omega) (by omega))
      go_wp2_with fail
      refine H5.out.mono ?_
      rintro e w5 ⟨k0, rfl, ⟨hk0, hk1⟩, r5, g5⟩
      obtain ⟨K0, rfl⟩ := Int.eq_ofNat_of_zero_le hk0
      have o5 := HO.asked g5 hgw
      have G5 := grown_trans G3 g5
      clear hk0
      go_wp2_with fail
      go_loopw [6, 11] (fun u i wr => ∃ (K G off c : Nat) (ys : List Int), K ≤ K0 ∧ i = .int .i64 K ∧ u = .slice (some ⟨G, off, none⟩) (2 * (1 + X)) c ∧ OwnX wr w.heap.size G off (2 * (1 + X)) c ys ∧ Rd wr g (p3 + 1) ∧ w.grownBy wr (some g)) (fun _ i _ => (intOf i).toNat)
      case atStart => exact ⟨K0, _, _, _, _, Nat.le_refl _, rfl, rfl, OwnX.of_own o5, r5, G5⟩
      case round =>
        obtain ⟨K, G, off, c, ys, hK, rfl, rfl, HX, r6, G6⟩ := hrel
        obtain ⟨hXc, hXm⟩ := HX.own_cap
        have hGw := HX.lt (by omega)
        have hGb := HX.ge
        by_cases hK1 : 0 < K
        · have c0 := HX.cell (j := 0) (by omega)
          rw [Nat.add_zero] at c0
          have HCUT := HX.cut (k := 1) (by omega) (by omega)
          have hc1 : 1 < c := by omega
          have hl1 : (1 : Int) ≤ 2 * (1 + (X : Int)) := by omega
          have hc1' : ¬ c = 1 := by omega
          have hl0 : (0 : Int) < 2 * (1 + (X : Int)) := by omega
          go_wp2_with fail
          go_region_law (refine step_append_x tyInts rfl (.tmp 58) (.tmp 62) rfl w.heap.size G (off + 1) (2 * (1 + X) - 1) (c - 1) (ys.drop 1) (by simp [Act.eval]) ((HCUT.below (by omega) ((Below.refl _ _).alloc (Nat.le_refl _) _)).same rfl) wr.heap.size (ys[0]?.getD 0) (by simp [Act.eval]) (by simp) (by omega) (by have := G6.4; simp; omega) ?_; intro G' off' c' w7 HX' g7)
          all_goals
            go_wp2_with fail
            go_roundw
            case rel => exact ⟨K - 1, G', off', c', _, by omega, by rw [show ((K - 1 : Nat) : Int) = (K : Int) - 1 by omega], by rw [show 2 * (1 + X) - 1 + 1 = 2 * (1 + X) by omega], by rw [show 2 * (1 + X) - 1 + 1 = 2 * (1 + X) by omega] at HX'; exact HX', (r6.below (((Below.refl _ _).alloc (Nat.le_refl _) _).drew)).own (A := some ⟨G, 0, none⟩) g7 (fun x e => by cases e; show g + 1 ≤ G; omega), grown_own (A := some ⟨G, 0, none⟩) (grown_trans (grown_trans G6 (grown_alloc wr _ (some g))) (grown_below (Below.refl _ _).drew (some g))) g7 (fun x e => by cases e; exact hGb)⟩
            case measure => simp [intOf]; omega
        · obtain rfl : K = 0 := by omega
          have H7 := Lib.hid (HP.out (p3 + 1) 24 wr r6 (by omega) (by omega) (by omega))
          go_wp2_with fail
          refine H7.out.mono ?_
          rintro e w7 ⟨y, rfl, ⟨hy0, hy1⟩, r7, g7⟩
          have o7 := HX.asked (by omega) g7 hgw
          have G7 := grown_trans G6 g7
          have c0 := o7.cell (j := 0) (by omega)
          rw [Nat.add_zero] at c0
          have f0 := (o7.room 0 (by omega)).2
          rw [Nat.add_zero] at f0
          have hl1 : (1 : Int) ≤ 2 * (1 + (X : Int)) := by omega
          have hl0 : (0 : Int) < 2 * (1 + (X : Int)) := by omega
          have hc1 : ¬ c = 1 := by omega
          have hne : ∀ (q : Nat), 0 < q → ∀ (o : Nat) (x : Addr), some (⟨G, o, none⟩ : Addr) = some x → x.block ≠ g := fun _ _ o x e => by cases e; show G ≠ g; omega
          have hR : ∃ p', p' ≤ p + 30 ∧ Rd w7 g p' := ⟨p3 + 1 + 1, by omega, r7⟩
          by_cases y0 : y = 0
          · subst y0
            go_wp2_with fail
            go_ret
            exact ⟨_, _, _, _, rfl, (o7.stored 0 _).ints, by omega, ⟨p3 + 1 + 1, by omega, r7.set (by omega)⟩, grown_set G7 hGb, fun q x hx => hne _ q _ x hx⟩
          · have b0 : (y == 0) = false := by rw [beq_eq_false_iff_ne]; exact y0
            by_cases y1 : y = 1
            · subst y1
              by_cases hX1 : 1 ≤ X
              · have c1 := o7.cell (j := 1) (by omega)
                have f1 := (o7.room 1 (by omega)).2
                have hl3 : (3 : Int) < 2 * (1 + (X : Int)) := by omega
                have hl11 : (1 : Int) < 2 * (1 + (X : Int)) := by omega
                go_wp2_with fail
                go_ret
                exact ⟨_, _, _, _, rfl, ((o7.stored 0 _).stored 1 _).ints, by omega, ⟨p3 + 1 + 1, by omega, (r7.set (by omega)).set (by omega)⟩, grown_set (grown_set G7 hGb) hGb, fun q x hx => hne _ q _ x hx⟩
              · have hl3 : ¬ (3 : Int) < 2 * (1 + (X : Int)) := by omega
                go_wp2_with fail
                go_ret
                exact ⟨_, _, _, _, rfl, o7.ints, by omega, hR, G7, fun q x hx => hne _ q _ x hx⟩
            · have b1 : (y == 1) = false := by rw [beq_eq_false_iff_ne]; exact y1
              by_cases y2 : y = 2
              · subst y2
                have HCUT := o7.cut (k := 1) (by omega) (by omega)
                go_wp2_with fail
                go_ret
                exact ⟨_, _, _, _, rfl, HCUT.ints, by omega, hR, G7, fun q x hx => hne _ q _ x hx⟩
              · have b2 : (y == 2) = false := by rw [beq_eq_false_iff_ne]; exact y2
                by_cases y3 : y = 3
                · subst y3
                  go_wp2_with fail
                  go_ret
                  exact ⟨_, _, _, _, rfl, Ints.empty _ _ (by unfold maxLen; omega), by omega, ⟨p3 + 1 + 1, by omega, r7.below ((Below.refl _ _).alloc (Nat.le_refl _) _)⟩, grown_trans G7 (grown_alloc _ _ _), fun q => absurd q (by omega)⟩
                · have b3 : (y == 3) = false := by rw [beq_eq_false_iff_ne]; exact y3
                  go_wp2_with fail
                  go_ret
                  exact ⟨_, _, _, _, rfl, o7.ints, by omega, hR, G7, fun q x hx => hne _ q _ x hx⟩

/-- What the drawing of angles hands back, to the law. -/
theorem spec_DrawAnglesCloses (a : Option Addr) (n cap : Nat) (bs : List Int) (w : World) (h : Bytes w a n cap bs) :
    Calls Try.prog 32 #[.slice a n cap] w (RL w) := by
  have H1 := Lib.hid (spec_l6Open a n cap bs w h)
  go_enter Try.func32, Try.ntmps32
  go_wp2_with (first | (go_at_call 68; refine H1.out.mono ?_; rintro e w1 ⟨rfl, r1, b1⟩; have H2 := Lib.hid (spec_l91Angles w.heap.size 0 w1 r1 (by omega))) | (go_at_call 73; refine H2.out.mono ?_; rintro e w2 ⟨a2, n2, c2, xs2, rfl, o2, hn2, ⟨p2, hp2, r2⟩, g2, hne2⟩))
  go_ret
  exact ⟨_, _, _, _, rfl, o2, hn2, below_grown b1 b1.size g2 (Nat.le_refl _)⟩

/-- What the drawing of angles and a number hands back, to the law. -/
def RLN (w : World) (e : Ending) (w' : World) : Prop := ∃ (a : Option Addr) (n cap : Nat) (xs : List Int) (k : Int), e = .returned (.tuple #[.slice a n cap, .int .i64 k]) ∧ Ints w' a n cap xs ∧ n ≤ 10 ∧ (-10 ≤ k ∧ k ≤ 20) ∧ Below w.heap.size w w'
theorem spec_DrawAnglesTurn (a : Option Addr) (n cap : Nat) (bs : List Int) (w : World) (h : Bytes w a n cap bs) :
    Calls Try.prog 27 #[.slice a n cap] w (RLN w) := by
  have H1 := Lib.hid (spec_l6Open a n cap bs w h)
  go_enter Try.func27, Try.ntmps27
  go_wp2_with (first | (go_at_call 68; refine H1.out.mono ?_; rintro e w1 ⟨rfl, r1, b1⟩; have H2 := Lib.hid (spec_l91Angles w.heap.size 0 w1 r1 (by omega))) | (go_at_call 73; refine H2.out.mono ?_; rintro e w2 ⟨a2, n2, c2, xs2, rfl, o2, hn2, ⟨p2, hp2, r2⟩, g2, hne2⟩))
  all_goals
    have b2 := below_grown b1 b1.size g2 (Nat.le_refl _)
    refine (spec_pick w.heap.size p2 _ w2 r2 (by omega) (by omega) (by omega)).mono ?_
    rintro e w3 ⟨x, rfl, ⟨hx0, hx1⟩, r3, g3⟩
    have b3 := below_grown b2 b2.size g3 (Nat.le_refl _)
    have hx2 : x ≤ 10 := by omega
    clear hx1
    go_wp2_with fail
    refine (spec_pick w.heap.size (p2 + 1) 16 w3 r3 (by omega) (by omega) (by omega)).mono ?_
    rintro e w4 ⟨y, rfl, ⟨hy0, hy1⟩, r4, g4⟩
    have b4 := below_grown b3 b3.size g4 (Nat.le_refl _)
    go_wp2_with fail
    go_ret2
    exact ⟨_, _, _, _, _, rfl, (o2.apart g3 hne2).apart g4 hne2, hn2, by omega, b4⟩

end Go.Proofs.Ythlgagngeedgjaa
