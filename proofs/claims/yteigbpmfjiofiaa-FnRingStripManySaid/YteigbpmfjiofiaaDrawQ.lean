/-
  What the reference's l1Folds, l1Power and l1Text hand back, as far as the drawing of rings asks it. What the reference draws for rings: a list and a text, short ones; of what they are nothing more is said. What the reference draws for rings, to the laws: a list, a text and layers, short ones; of what they are nothing more is said.
-/
import Derived.Test.YteigbpmfjiofiaaCrimp
import Derived.Test.YteigbpmfjiofiaaCrimps
import Derived.Test.YteigbpmfjiofiaaPlainE
import Derived.Test.YteigbpmfjiofiaaMemX
import Derived.RegionTactic
import Derived.Test.YteigbpmfjiofiaaDraw3
import Derived.Test.YteigbpmfjiofiaaManyR
namespace Go.Proofs.Yteigbpmfjiofiaa
open Go.RowKit

theorem spec_l1Crimp {n i : Nat} (hn : n = 4 ∨ n = 6) (hi : i < n) (a : Option Addr) (cap : Nat) (xs : List Int) (s : ByteArray) (w : World) (h : Ints w a n cap xs) (hs : s.size = n) :
    Calls Try.prog 94 #[.slice a n cap, .string s, .int .i64 i] w (RLTn w (n - 2)) := by
  obtain ⟨b, off, rfl, _⟩ := h.cells (by omega)
  rcases hn with rfl | rfl
  · match i, hi with
    | 0, _ => exact crimp_4_0 b off cap xs s w h hs
    | 1, _ => exact crimp_4_1 b off cap xs s w h hs
    | 2, _ => exact crimp_4_2 b off cap xs s w h hs
    | 3, _ => exact crimp_4_3 b off cap xs s w h hs
  · match i, hi with
    | 0, _ => exact crimp_6_0 b off cap xs s w h hs
    | 1, _ => exact crimp_6_1 b off cap xs s w h hs
    | 2, _ => exact crimp_6_2 b off cap xs s w h hs
    | 3, _ => exact crimp_6_3 b off cap xs s w h hs
    | 4, _ => exact crimp_6_4 b off cap xs s w h hs
    | 5, _ => exact crimp_6_5 b off cap xs s w h hs

/-- Some answer. -/
def RAny (w : World) (e : Ending) (w' : World) : Prop := (∃ t : Bool, e = .returned (.bool t)) ∧ Below w.heap.size w w'

set_option maxRecDepth 100000 in
set_option maxHeartbeats 4000000 in
theorem spec_l1Folds (a : Option Addr) (n cap : Nat) (xs : List Int) (s : ByteArray) (w : World) (h : Ints w a n cap xs) (hn : n = 2 ∨ n = 4 ∨ n = 6) (hs : s.size = n) :
    Calls Try.prog 87 #[.slice a n cap, .string s] w (RAny w) := by
  have H1 := Lib.hid (spec_l1Crimps a n cap xs s w h (by omega) hs)
  have hle := h.le_cap
  have hmx := h.cap_max
  go_enter Try.func87, Try.ntmps87
  go_wp2_with (go_at_call 93; refine H1.out.mono ?_; rintro e w1 ⟨a1, q1, c1, rfl, o1, b1⟩)
  have hq1 := o1.ints.le_cap
  have i1 := h.below b1
  clear h H1
  go_loopw [0, 1, 5] (fun u f v wr => ∃ (m : Nat) (A : Option Addr) (c : Nat) (ys : List Int) (t : ByteArray) (B : Option Addr) (q d : Nat), (m = 2 ∨ m = 4 ∨ m = 6) ∧ u = .slice A m c ∧ f = .string t ∧ v = .slice B q d ∧ Ints wr A m c ys ∧ t.size = m ∧ Ints wr B q d (crimpsL ys t) ∧ Below w.heap.size w wr) (fun u _ _ _ => match u with | .slice _ m _ => m | _ => 0)
  case atStart => exact ⟨n, a, cap, xs, s, a1, q1, c1, hn, rfl, rfl, rfl, i1, hs, o1.ints, b1⟩
  case round =>
    obtain ⟨m, A, c, ys, t, B, q, d, hm, rfl, rfl, rfl, iy, ht, iq, hB⟩ := hrel
    have hLy := iy.length
    have hqd := iq.le_cap
    have hqm := iq.cap_max
    have hmc := iy.le_cap
    have hcm := iy.cap_max
    by_cases hq : 0 < q
    · obtain ⟨b, off, rfl, hc⟩ := iq.cells hq
      have h0 := hc 0 hq
      rw [Nat.add_zero] at h0
      clear hc
      have hmem := crimpsL_mem (getD_mem (xs := crimpsL ys t) (k := 0) (by rw [iq.length]; exact hq))
      rw [hLy] at hmem
      generalize (crimpsL ys t)[0]?.getD 0 = x at h0 hmem
      obtain ⟨h4, hx0, hxm⟩ := hmem
      obtain ⟨i, rfl⟩ := Int.eq_ofNat_of_zero_le hx0
      have P1 := Lib.hid (spec_l1Crimp (show m = 4 ∨ m = 6 by omega) (show i < m by omega) A c ys t wr iy ht)
      have hqI : (0 : Int) < (q : Int) := by omega
      have hm2 : m - 2 = 2 ∨ m - 2 = 4 ∨ m - 2 = 6 := by omega
      have HM : Hid (m - 2 < m) := by unfold Hid; omega
      clear iq
      generalize m - 2 = m2 at P1 hm2 HM
      go_wp2_with fail
      refine P1.out.mono ?_
      rintro e w2 ⟨a2, c2, zs, t2, rfl, i2, ht2, b2⟩
      have B2 := Below.call hB hB.size b2
      have P2 := Lib.hid (spec_l1Crimps a2 m2 c2 zs t2 w2 i2 (by omega) ht2)
      go_wp2_with fail
      refine P2.out.mono ?_
      rintro e w3 ⟨a3, q3, c3, rfl, o3, b3⟩
      go_wp2_with fail
      go_roundw
      case rel => exact ⟨m2, a2, c2, zs, t2, a3, q3, c3, hm2, rfl, rfl, rfl, i2.below b3, ht2, o3.ints, Below.call B2 B2.size b3⟩
      case measure => exact HM.out
    · have hqI : ¬ (0 : Int) < (q : Int) := by omega
      obtain ⟨b, off, rfl, hc⟩ := iy.cells (by omega)
      have h0 := hc 0 (by omega)
      have h1 := hc 1 (by omega)
      rw [Nat.add_zero] at h0
      clear hc iq
      generalize ys[0]?.getD 0 = X at h0
      generalize ys[1]?.getD 0 = Y at h1
      by_cases h2 : m = 2
      · subst h2
        have ht0 : 0 < t.size := by omega
        have ht1 : 1 < t.size := by omega
        have ht0I : (0 : Int) < (t.size : Int) := by omega
        have ht1I : (1 : Int) < (t.size : Int) := by omega
        by_cases hXY : X = Y
        · have hb : (X == Y) = true := by rw [beq_iff_eq]; exact hXY
          go_wp2_with fail
          go_quiet (fail)
          go_wp2_with fail
          go_ret
          exact ⟨⟨_, rfl⟩, below_drewN hB _⟩
        · have hb : (X == Y) = false := by rw [beq_eq_false_iff_ne]; exact hXY
          go_wp2_with fail
          go_quiet (fail)
          go_wp2_with fail
          go_ret
          exact ⟨⟨_, rfl⟩, below_drewN hB _⟩
      · have hmI : ¬ (m : Int) = 2 := by omega
        have hmb : ((m : Int) == 2) = false := by rw [beq_eq_false_iff_ne]; omega
        go_wp2_with fail
        go_quiet (fail)
        go_wp2_with fail
        go_ret
        exact ⟨⟨_, rfl⟩, below_drewN hB _⟩

def mvT (s : ByteArray) : Prop := s.data.toList.all isMV = true
set_option maxHeartbeats 400000 in
theorem spec_l1Power (n : Nat) (w : World) (hn : n ≤ 6) :
    Calls Try.prog 85 #[.int .i64 n] w fun e w' => (∃ z : Nat, e = .returned (.int .i64 z) ∧ Hid (z = 2 ^ n)) ∧ w = w' := by
  go_enter Try.func85, Try.ntmps85
  go_wp2
  go_loop [3, 4] (fun t i => ∃ (j z : Nat), j ≤ n ∧ i = .int .i64 j ∧ t = .int .i64 z ∧ Hid (z = 2 ^ j)) (fun _ i => n - (intOf i).toNat)
  case atStart => exact ⟨0, 1, Nat.zero_le _, rfl, rfl, rfl⟩
  case round =>
    obtain ⟨j, z, hj, rfl, rfl, hz⟩ := hrel
    have hzz : z ≤ 64 := by
      rw [hz.out]
      have hp : 2 ^ j ≤ 2 ^ 6 := Nat.pow_le_pow_right (by omega) (by omega)
      omega
    by_cases hlt : j < n
    · have hP : Hid (z * 2 = 2 ^ (j + 1)) := by unfold Hid; rw [Nat.pow_succ, hz.out]
      go_wp2
      go_round
      case rel => exact ⟨j + 1, z * 2, by omega, by go_num, by go_num, hP⟩
      case measure => simp [intOf]; omega
    · obtain rfl : j = n := by omega
      go_wp2
      go_ret
      exact ⟨⟨z, rfl, hz⟩, rfl⟩

set_option maxHeartbeats 400000 in
theorem spec_l1Text (n : Nat) (R : Int) (w : World) (hn : n ≤ 6) (hR0 : 0 ≤ R) (hR1 : R ≤ 1048576) :
    Calls Try.prog 86 #[.int .i64 n, .int .i64 R] w fun e w' => (∃ t : ByteArray, e = .returned (.string t) ∧ t.size = n) ∧ w = w' := by
  go_enter Try.func86, Try.ntmps86
  go_wp2
  go_loop [1, 5, 6] (fun r o i => ∃ (j : Nat) (t : ByteArray) (S : Int), j ≤ n ∧ i = .int .i64 j ∧ o = .string t ∧ r = .int .i64 S ∧ t.size = j ∧ 0 ≤ S ∧ S ≤ 1048576) (fun _ _ i => n - (intOf i).toNat)
  case atStart => exact ⟨0, _, R, Nat.zero_le _, rfl, rfl, rfl, rfl, hR0, hR1⟩
  case round =>
    obtain ⟨j, t, S, hj, rfl, rfl, rfl, hts, hS0, hS1⟩ := hrel
    by_cases hlt : j < n
    · have hd0 : 0 ≤ S / 2 := by omega
      have hd1 : S / 2 ≤ 1048576 := by omega
      by_cases h2 : S % 2 = 0
      · have h2b : (S % 2 == 0) = true := by rw [beq_iff_eq]; exact h2
        go_wp2
        go_round
        case rel => exact ⟨j + 1, ⟨#[77]⟩ ++ t, S / 2, by omega, by go_num, rfl, by first | rfl | go_num, by rw [ByteArray.size_append]; show 1 + t.size = j + 1; omega, hd0, hd1⟩
        case measure => simp [intOf]; omega
      · have h2b : (S % 2 == 0) = false := by rw [beq_eq_false_iff_ne]; exact h2
        go_wp2
        go_round
        case rel => exact ⟨j + 1, ⟨#[86]⟩ ++ t, S / 2, by omega, by go_num, rfl, by first | rfl | go_num, by rw [ByteArray.size_append]; show 1 + t.size = j + 1; omega, hd0, hd1⟩
        case measure => simp [intOf]; omega
    · go_wp2
      go_ret
      exact ⟨⟨t, rfl, by omega⟩, rfl⟩


/-- What l91Ring hands back. -/
def RRing (w : World) (g p q : Nat) (e : Ending) (w' : World) : Prop := ∃ (a : Option Addr) (n cap : Nat) (xs : List Int) (s : ByteArray), e = .returned (.tuple #[.slice a n cap, .string s]) ∧ Ints w' a n cap xs ∧ n ≤ 10 ∧ s.size ≤ 20 ∧ (∃ p', p' ≤ p + q ∧ Rd w' g p') ∧ w.grownBy w' (some g) ∧ (0 < n → ∀ x, a = some x → x.block ≠ g)

/-- A text of so many letters. -/
def RTextN (w : World) (g p n : Nat) (e : Ending) (w' : World) : Prop := ∃ s : ByteArray, e = .returned (.string s) ∧ s.size = n ∧ Rd w' g (p + n) ∧ w.grownBy w' (some g)
set_option maxHeartbeats 1000000 in
theorem spec_l91TextN (g p : Nat) (n : Nat) (w : World) (h : Rd w g p) (hp : p + n ≤ 100000) :
    Calls Try.prog 84 #[.pointer (some ⟨g, 0, none⟩), .int .i64 n] w (RTextN w g p n) := by
  go_enter Try.func84, Try.ntmps84
  go_wp2
  go_loopw [5, 6] (fun t i wr => ∃ (k : Nat) (s : ByteArray), k ≤ n ∧ i = .int .i64 k ∧ t = .string s ∧ s.size = k ∧ Rd wr g (p + k) ∧ w.grownBy wr (some g)) (fun _ i _ => n - (intOf i).toNat)
  case atStart => exact ⟨0, _, Nat.zero_le _, rfl, rfl, rfl, h, World.grownBy.refl _ _⟩
  case round =>
    obtain ⟨k, s, hk, rfl, rfl, hs, hr, hg⟩ := hrel
    by_cases hlt : k < n
    · have hr1 := hr.below ((Below.refl _ _).alloc (Nat.le_refl _) (.cells #[.string ⟨#[77]⟩, .string ⟨#[86]⟩] 9))
      have H1 := Lib.hid (spec_of g (p + k) wr.heap.size 2 _ hr1 (by omega) (by omega) (by omega) (Nat.ne_of_gt hr.lt) (fun j hj => by
        match j, hj with
        | 0, _ => exact ⟨77, by simp⟩
        | 1, _ => exact ⟨86, by simp⟩))
      go_wp2_with (go_at_call 92; refine H1.out.mono ?_; rintro e w1 ⟨c, rfl, r1, g1⟩)
      go_roundw
      case rel => exact ⟨k + 1, _, by omega, by go_num, rfl, by rw [size_add1]; omega, r1, grown_trans (grown_trans hg (grown_alloc _ _ _)) g1⟩
      case measure => simp [intOf]; omega
    · obtain rfl : k = n := by omega
      go_wp2
      go_ret
      exact ⟨s, rfl, hs, hr, hg⟩

set_option maxRecDepth 100000 in
set_option maxHeartbeats 4000000 in
theorem spec_l91Ring (g p : Nat) (w : World) (h : Rd w g p) (hp : p ≤ 1000) :
    Calls Try.prog 56 #[.pointer (some ⟨g, 0, none⟩), .int .i64 6] w (RRing w g p 100) := by
  have hgw := h.lt
  have H1 := Lib.hid (spec_pick g p 3 w h (by omega) (by omega) (by omega))
  have HP := Lib.hid (fun (P : Nat) (n : Int) (W : World) (hr : Rd W g P) (q1 : P ≤ 100000) (q2 : 1 ≤ n) (q3 : n ≤ 1000000) => spec_pick g P n W hr q1 q2 q3)
  go_enter Try.func56, Try.ntmps56
  go_wp2_with fail
  refine H1.out.mono ?_
  clear H1
  rintro e w1 ⟨x, rfl, ⟨hx0, hx1⟩, r1, g1⟩
  obtain ⟨X, rfl⟩ := Int.eq_ofNat_of_zero_le hx0
  have hX : X ≤ 2 := by omega
  have z1 := g1.4
  go_wp2_with (at_make; refine wpList_make_ints tyInts rfl _ _ rfl w.heap.size _ _ (2 * (1 + X)) rfl rfl (by omega) (by omega) (by omega) z1 ?_; intro w2 hown hg)
  have r2 := r1.below ((Below.refl _ _).grown hg (Nat.le_refl _) (by simp))
  have G2 := grown_trans g1 (grown_below ((Below.refl _ _).grown hg (Nat.le_refl _) (by simp)) (some g))
  have hgo : g < w1.heap.size := r1.lt
  have hbo : w.heap.size ≤ w1.heap.size := z1
  clear hg
  have H2 := Lib.hid (HP.out (p + 1) 6 w2 r2 (by omega) (by omega) (by omega))
  refine H2.out.mono ?_
  rintro e w3 ⟨y, rfl, ⟨hy0, hy1⟩, r3, g3⟩
  have o3 := hown.asked g3 hgw
  have G3 := grown_trans G2 g3
  have hsum : 1 ≤ 1 + (X : Int) + y ∧ 1 + (X : Int) + y ≤ 8 := by omega
  clear hown r2 G2 r1 g1 g3 H2
  go_wp2_with fail
  go_loopw [9] (fun s wr => ∃ (S : Nat) (xs : List Int), S ≤ 2 ∧ s = .int .i64 S ∧ OwnI wr w.heap.size (some ⟨w1.heap.size, 0, none⟩) (2 * (1 + X)) (2 * (1 + X)) xs ∧ (∃ p', p' ≤ p + 2 + 3 * S ∧ Rd wr g p') ∧ w.grownBy wr (some g)) (fun s _ => 2 - (intOf s).toNat)
  case atStart => exact ⟨0, _, by omega, rfl, o3, ⟨p + 1 + 1, by omega, r3⟩, G3⟩
  case round =>
    obtain ⟨S, xs, hS, rfl, HO, ⟨p3, hp3, r4⟩, G4⟩ := hrel
    obtain ⟨wo, rfl⟩ : ∃ wo : World, wo = wr := ⟨_, rfl⟩
    by_cases hlt : S < 2
    · have hltI : (S : Int) < 2 := by omega
      go_wp2_with fail
      go_loopw [10, 11] (fun r i wr => ∃ (k : Nat) (rr : Int) (xs : List Int), k ≤ 1 + X ∧ i = .int .i64 k ∧ r = .int .i64 rr ∧ (-(k : Int) ≤ rr ∧ rr ≤ 10) ∧ OwnI wr w.heap.size (some ⟨w1.heap.size, 0, none⟩) (2 * (1 + X)) (2 * (1 + X)) xs ∧ (∃ p', p' ≤ p3 + k ∧ Rd wr g p') ∧ w.grownBy wr (some g)) (fun _ i _ => 1 + X - (intOf i).toNat)
      case atStart => exact ⟨0, _, xs, Nat.zero_le _, rfl, rfl, by omega, HO, ⟨p3, by omega, r4⟩, G4⟩
      case round =>
        obtain ⟨k, rr, ys, hk, rfl, rfl, hr, HO2, ⟨p4, hp4, r5⟩, G5⟩ := hrel
        by_cases hlt2 : k < 1 + X
        · by_cases hkX : k < X
          · have hk1 : (k : Int) + 1 < 1 + (X : Int) := by omega
            obtain ⟨M, hM⟩ : ∃ M : Int, M = max 1 (rr - ((X : Int) - k)) := ⟨_, rfl⟩
            have hM1 : 1 ≤ M ∧ M ≤ 10 := by omega
            have PK : Hid (∀ v : Int, v = M → Calls Try.prog 83 #[.pointer (some ⟨g, 0, none⟩), .int .i64 v] wr (RPick wr g p4 M)) := fun v e => by
              rw [e]; exact HP.out p4 M wr r5 (by omega) hM1.1 (by omega)
            have HM := Lib.hid hM
            clear hM
            by_cases hbig : 1 < rr - ((X : Int) - k)
            · go_wp2_with fail
              refine (PK.out _ (by have := HM.out; omega)).mono ?_
              rintro e w4 ⟨z, rfl, ⟨hz0, hz1⟩, r6, g6⟩
              have o6 := HO2.asked g6 hgw
              have G6 := grown_trans G5 g6
              have hgk := o6.cell (j := 2 * k + S) (by omega)
              have hfk := o6.frozen (2 * k + S)
              have hi1 : 2 * (k : Int) + (S : Int) < 2 * (1 + (X : Int)) := by omega
              have hi2 : 2 * k + S < 2 * (1 + X) := by omega
              have hrz : -((k + 1 : Nat) : Int) ≤ rr - (1 + z) ∧ rr - (1 + z) ≤ 10 := by have := HM.out; omega
              go_wp2_with fail
              go_roundw
              case rel => exact ⟨k + 1, rr - (1 + z), _, by omega, by go_num, rfl, hrz, o6.stored (2 * k + S) (1 + z), ⟨p4 + 1, by omega, r6.set (by omega)⟩, grown_set G6 hbo⟩
              case measure => simp [intOf]; omega
            · go_wp2_with fail
              refine (PK.out _ (by have := HM.out; omega)).mono ?_
              rintro e w4 ⟨z, rfl, ⟨hz0, hz1⟩, r6, g6⟩
              have o6 := HO2.asked g6 hgw
              have G6 := grown_trans G5 g6
              have hgk := o6.cell (j := 2 * k + S) (by omega)
              have hfk := o6.frozen (2 * k + S)
              have hi1 : 2 * (k : Int) + (S : Int) < 2 * (1 + (X : Int)) := by omega
              have hi2 : 2 * k + S < 2 * (1 + X) := by omega
              have hrz : -((k + 1 : Nat) : Int) ≤ rr - (1 + z) ∧ rr - (1 + z) ≤ 10 := by have := HM.out; omega
              go_wp2_with fail
              go_roundw
              case rel => exact ⟨k + 1, rr - (1 + z), _, by omega, by go_num, rfl, hrz, o6.stored (2 * k + S) (1 + z), ⟨p4 + 1, by omega, r6.set (by omega)⟩, grown_set G6 hbo⟩
              case measure => simp [intOf]; omega
          · have hk1 : ¬ (k : Int) + 1 < 1 + (X : Int) := by omega
            have hgk := HO2.cell (j := 2 * k + S) (by omega)
            have hfk := HO2.frozen (2 * k + S)
            have hi1 : 2 * (k : Int) + (S : Int) < 2 * (1 + (X : Int)) := by omega
            have hi2 : 2 * k + S < 2 * (1 + X) := by omega
            go_wp2_with fail
            go_roundw
            case rel => exact ⟨k + 1, rr - rr, _, by omega, by go_num, by go_num, by omega, HO2.stored (2 * k + S) rr, ⟨p4, by omega, r5.set (by omega)⟩, grown_set G5 hbo⟩
            case measure => simp [intOf]; omega
        · go_wp2_with fail
          go_roundw
          case rel => exact ⟨S + 1, ys, by omega, by go_num, HO2, ⟨p4, by omega, r5⟩, G5⟩
          case measure => simp [intOf]; omega
    · clear o3 r3 G3
      have HTX : Hid (∀ v : Int, v = 2 * (1 + (X : Int)) → Calls Try.prog 84 #[.pointer (some ⟨g, 0, none⟩), .int .i64 v] wo (RTextN wo g p3 (2 * (1 + X)))) := fun v e => by
        rw [e, show 2 * (1 + (X : Int)) = ((2 * (1 + X) : Nat) : Int) by omega]
        exact spec_l91TextN g p3 (2 * (1 + X)) wo r4 (by omega)
      go_wp2_with fail
      refine (HTX.out _ (by first | rfl | omega)).mono ?_
      rintro e w6 ⟨s, rfl, hs6, r6, g6⟩
      have HS6 := Lib.hid hs6
      have o6 := HO.asked g6 hgw
      have G6 := grown_trans G4 g6
      have H8 := Lib.hid (HP.out (p3 + 2 * (1 + X)) 2 w6 r6 (by omega) (by omega) (by omega))
      clear hs6 HTX HO G4 r4
      go_wp2_with fail
      refine H8.out.mono ?_
      rintro e w7 ⟨y7, rfl, ⟨hy70, hy71⟩, r7, g7⟩
      have o7 := o6.asked g7 hgw
      have G7 := grown_trans G6 g7
      clear H8 o6 G6 r6
      by_cases y70 : y7 = 0
      · subst y70
        obtain ⟨P, hP⟩ : ∃ P, 2 ^ (2 * (1 + X)) = P := ⟨_, rfl⟩
        have hP64 : P ≤ 64 ∧ 1 ≤ P := by
          have h1 : 2 ^ (2 * (1 + X)) ≤ 2 ^ 6 := Nat.pow_le_pow_right (by omega) (by omega)
          have h2 : 1 ≤ 2 ^ (2 * (1 + X)) := Nat.one_le_two_pow
          omega
        have PL : Hid (∀ (W : World) (v : Int), v = 2 * (1 + (X : Int)) → Calls Try.prog 85 #[.int .i64 v] W fun e w' => e = .returned (.int .i64 P) ∧ W = w') := fun W v e => by
          rw [e, show 2 * (1 + (X : Int)) = ((2 * (1 + X) : Nat) : Int) by omega]
          refine (spec_l1Power (2 * (1 + X)) W (by omega)).mono ?_
          rintro e w' ⟨⟨z, rfl, hz⟩, rfl⟩
          exact ⟨by rw [hz.out, hP], rfl⟩
        have PT : Hid (∀ (W : World) (v R : Int), v = 2 * (1 + (X : Int)) → 0 ≤ R → R ≤ 1048576 → Calls Try.prog 86 #[.int .i64 v, .int .i64 R] W fun e w' => (∃ t : ByteArray, e = .returned (.string t) ∧ t.size = 2 * (1 + X)) ∧ W = w') := fun W v R e h0 h1 => by
          rw [e, show 2 * (1 + (X : Int)) = ((2 * (1 + X) : Nat) : Int) by omega]
          exact spec_l1Text (2 * (1 + X)) R W (by omega) h0 h1
        clear hP
        go_wp2_with fail
        go_loopw [13, 14] (fun f i wr => ∃ K : Nat, K ≤ P ∧ i = .int .i64 K ∧ f = .string s ∧ OwnI wr w.heap.size (some ⟨w1.heap.size, 0, none⟩) (2 * (1 + X)) (2 * (1 + X)) xs ∧ Rd wr g (p3 + 2 * (1 + X) + 1 + K) ∧ w.grownBy wr (some g)) (fun _ i _ => P - (intOf i).toNat)
        case atStart => exact ⟨0, Nat.zero_le _, rfl, rfl, o7, r7, G7⟩
        case round =>
          obtain ⟨K, hK, rfl, rfl, HO3, r8, G8⟩ := hrel
          have hz0 : ¬ (P : Int) = 0 := by omega
          by_cases hltK : K < P
          · have hltKI : (K : Int) < (P : Int) := by omega
            have H10 := Lib.hid (HP.out (p3 + 2 * (1 + X) + 1 + K) 64 wr r8 (by omega) (by omega) (by omega))
            go_wp2_with fail
            refine (PL.out _ _ (by first | rfl | omega)).mono ?_
            rintro e w9 ⟨rfl, rfl⟩
            go_wp2_with fail
            refine H10.out.mono ?_
            rintro e w9 ⟨u, rfl, ⟨hu0, hu1⟩, r9, g9⟩
            have o9 := HO3.asked g9 hgw
            have G9 := grown_trans G8 g9
            clear H10 HO3 r8 G8
            go_wp2_with fail
            refine (PL.out _ _ (by first | rfl | omega)).mono ?_
            rintro e w10 ⟨rfl, rfl⟩
            have hm0 := Int.emod_nonneg ((K : Int) + u) hz0
            have hm1 := Int.emod_lt_of_pos ((K : Int) + u) (show (0 : Int) < P by omega)
            go_wp2_with fail
            refine (PT.out _ _ _ (by first | rfl | omega) (by first | exact hm0 | (rw [Int.tmod_eq_emod_of_nonneg (by omega)]; exact hm0)) (by first | omega | (rw [Int.tmod_eq_emod_of_nonneg (by omega)]; omega))).mono ?_
            rintro e w10 ⟨⟨t, rfl, ht⟩, rfl⟩
            have HT := Lib.hid ht
            have PF := Lib.hid (spec_l1Folds _ (2 * (1 + X)) _ xs t w9 o9.ints (by omega) ht)
            clear ht hm0 hm1
            go_wp2_with fail
            refine PF.out.mono ?_
            rintro e w11 ⟨⟨tb, rfl⟩, b11⟩
            have o11 := o9.below b11
            have r11 := r9.below b11
            have G11 := grown_trans G9 (grown_below b11 (some g))
            clear PF o9 r9 G9
            cases tb with
            | true =>
              have H9 := Lib.hid (HP.out (p3 + 2 * (1 + X) + 1 + K + 1) 40 w11 r11 (by omega) (by omega) (by omega))
              go_wp2_with fail
              refine H9.out.mono ?_
              rintro e w20 ⟨y, rfl, ⟨hy0, hy1⟩, r20, g20⟩
              have o20 := o11.asked g20 hgw
              have G20 := grown_trans G11 g20
              have c20 := o20.cell (j := 0) (by omega)
              have f20 := o20.frozen 0
              have hl0 : (0 : Int) < 2 * (1 + (X : Int)) := by omega
              have hl1 : (1 : Int) ≤ 2 * (1 + (X : Int)) := by omega
              have hlc : ¬ 2 * (1 + X) = 1 := by omega
              have htI : (1 : Int) ≤ (t.size : Int) := by have := HT.out; omega
              have hsep : 0 < 2 * (1 + X) → ∀ (oo : Nat) (x : Addr), some (⟨w1.heap.size, oo, none⟩ : Addr) = some x → x.block ≠ g := fun _ oo x e => by cases e; show w1.heap.size ≠ g; omega
              have hR : ∃ p', p' ≤ p + 100 ∧ Rd w20 g p' := ⟨p3 + 2 * (1 + X) + 1 + K + 1 + 1, by omega, r20⟩
              have hts : t.size ≤ 20 := by have := HT.out; omega
              clear H9 r11 o11 G11
              by_cases y0 : y = 0
              · subst y0
                go_wp2_with fail
                go_ret2
                exact ⟨_, _, _, _, _, rfl, (o20.stored 0 _).ints, by omega, hts, ⟨p3 + 2 * (1 + X) + 1 + K + 1 + 1, by omega, r20.set (by omega)⟩, grown_set G20 hbo, fun q x hx => hsep q _ x hx⟩
              · have b0 : (y == 0) = false := by rw [beq_eq_false_iff_ne]; exact y0
                by_cases y1 : y = 1
                · subst y1
                  go_wp2_with fail
                  go_ret2
                  exact ⟨_, _, _, _, _, rfl, o20.ints, by omega, by rw [ByteArray.size_extract]; omega, hR, G20, fun q x hx => hsep q _ x hx⟩
                · have b1 : (y == 1) = false := by rw [beq_eq_false_iff_ne]; exact y1
                  by_cases y2 : y = 2
                  · subst y2
                    go_wp2_with fail
                    go_quiet (fail)
                    go_wp2_with fail
                    go_ret2
                    exact ⟨_, _, _, _, _, rfl, Ints.below (Ints.part o20.ints (i := 1) (m := 2 * (1 + X) - 1) (by omega) (by omega)) (below_drewN (Below.refl _ _) nq), by omega, by rw [ByteArray.size_extract]; omega, ⟨p3 + 2 * (1 + X) + 1 + K + 1 + 1, by omega, r20.drewN nq⟩, grown_drewN G20 nq, fun q x hx => hsep (by omega) _ x hx⟩
                  · have b2 : (y == 2) = false := by rw [beq_eq_false_iff_ne]; exact y2
                    go_wp2_with fail
                    go_ret2
                    exact ⟨_, _, _, _, _, rfl, o20.ints, by omega, hts, hR, G20, fun q x hx => hsep q _ x hx⟩
            | false =>
              go_wp2_with fail
              go_roundw
              case rel => exact ⟨K + 1, by omega, by go_num, rfl, o11, r11, G11⟩
              case measure => simp [intOf]; omega
          · have hltKI : ¬ (K : Int) < (P : Int) := by omega
            go_wp2_with fail
            refine (PL.out _ _ (by first | rfl | omega)).mono ?_
            rintro e w9 ⟨rfl, rfl⟩
            have H9 := Lib.hid (HP.out (p3 + 2 * (1 + X) + 1 + K) 40 wr r8 (by omega) (by omega) (by omega))
            go_wp2_with fail
            refine H9.out.mono ?_
            rintro e w20 ⟨y, rfl, ⟨hy0, hy1⟩, r20, g20⟩
            have o20 := HO3.asked g20 hgw
            have G20 := grown_trans G8 g20
            have c20 := o20.cell (j := 0) (by omega)
            have f20 := o20.frozen 0
            have hl0 : (0 : Int) < 2 * (1 + (X : Int)) := by omega
            have hl1 : (1 : Int) ≤ 2 * (1 + (X : Int)) := by omega
            have hlc : ¬ 2 * (1 + X) = 1 := by omega
            have htI : (1 : Int) ≤ (s.size : Int) := by have := HS6.out; omega
            have hsep : 0 < 2 * (1 + X) → ∀ (oo : Nat) (x : Addr), some (⟨w1.heap.size, oo, none⟩ : Addr) = some x → x.block ≠ g := fun _ oo x e => by cases e; show w1.heap.size ≠ g; omega
            have hR : ∃ p', p' ≤ p + 100 ∧ Rd w20 g p' := ⟨p3 + 2 * (1 + X) + 1 + K + 1, by omega, r20⟩
            have hts : s.size ≤ 20 := by have := HS6.out; omega
            clear H9 r8 HO3 G8
            by_cases y0 : y = 0
            · subst y0
              go_wp2_with fail
              go_ret2
              exact ⟨_, _, _, _, _, rfl, (o20.stored 0 _).ints, by omega, hts, ⟨p3 + 2 * (1 + X) + 1 + K + 1, by omega, r20.set (by omega)⟩, grown_set G20 hbo, fun q x hx => hsep q _ x hx⟩
            · have b0 : (y == 0) = false := by rw [beq_eq_false_iff_ne]; exact y0
              by_cases y1 : y = 1
              · subst y1
                go_wp2_with fail
                go_ret2
                exact ⟨_, _, _, _, _, rfl, o20.ints, by omega, by rw [ByteArray.size_extract]; omega, hR, G20, fun q x hx => hsep q _ x hx⟩
              · have b1 : (y == 1) = false := by rw [beq_eq_false_iff_ne]; exact y1
                by_cases y2 : y = 2
                · subst y2
                  go_wp2_with fail
                  go_quiet (fail)
                  go_wp2_with fail
                  go_ret2
                  exact ⟨_, _, _, _, _, rfl, Ints.below (Ints.part o20.ints (i := 1) (m := 2 * (1 + X) - 1) (by omega) (by omega)) (below_drewN (Below.refl _ _) nq), by omega, by rw [ByteArray.size_extract]; omega, ⟨p3 + 2 * (1 + X) + 1 + K + 1, by omega, r20.drewN nq⟩, grown_drewN G20 nq, fun q x hx => hsep (by omega) _ x hx⟩
                · have b2 : (y == 2) = false := by rw [beq_eq_false_iff_ne]; exact y2
                  go_wp2_with fail
                  go_ret2
                  exact ⟨_, _, _, _, _, rfl, o20.ints, by omega, hts, hR, G20, fun q x hx => hsep q _ x hx⟩
      · have y7b : (y7 == 0) = false := by rw [beq_eq_false_iff_ne]; exact y70
        have H9 := Lib.hid (HP.out (p3 + 2 * (1 + X) + 1) 40 w7 r7 (by omega) (by omega) (by omega))
        go_wp2_with fail
        refine H9.out.mono ?_
        rintro e w20 ⟨y, rfl, ⟨hy0, hy1⟩, r20, g20⟩
        have o20 := o7.asked g20 hgw
        have G20 := grown_trans G7 g20
        have c20 := o20.cell (j := 0) (by omega)
        have f20 := o20.frozen 0
        have hl0 : (0 : Int) < 2 * (1 + (X : Int)) := by omega
        have hl1 : (1 : Int) ≤ 2 * (1 + (X : Int)) := by omega
        have hlc : ¬ 2 * (1 + X) = 1 := by omega
        have htI : (1 : Int) ≤ (s.size : Int) := by have := HS6.out; omega
        have hsep : 0 < 2 * (1 + X) → ∀ (oo : Nat) (x : Addr), some (⟨w1.heap.size, oo, none⟩ : Addr) = some x → x.block ≠ g := fun _ oo x e => by cases e; show w1.heap.size ≠ g; omega
        have hR : ∃ p', p' ≤ p + 100 ∧ Rd w20 g p' := ⟨p3 + 2 * (1 + X) + 1 + 1, by omega, r20⟩
        have hts : s.size ≤ 20 := by have := HS6.out; omega
        clear H9 r7 o7 G7
        by_cases y0 : y = 0
        · subst y0
          go_wp2_with fail
          go_ret2
          exact ⟨_, _, _, _, _, rfl, (o20.stored 0 _).ints, by omega, hts, ⟨p3 + 2 * (1 + X) + 1 + 1, by omega, r20.set (by omega)⟩, grown_set G20 hbo, fun q x hx => hsep q _ x hx⟩
        · have b0 : (y == 0) = false := by rw [beq_eq_false_iff_ne]; exact y0
          by_cases y1 : y = 1
          · subst y1
            go_wp2_with fail
            go_ret2
            exact ⟨_, _, _, _, _, rfl, o20.ints, by omega, by rw [ByteArray.size_extract]; omega, hR, G20, fun q x hx => hsep q _ x hx⟩
          · have b1 : (y == 1) = false := by rw [beq_eq_false_iff_ne]; exact y1
            by_cases y2 : y = 2
            · subst y2
              go_wp2_with fail
              go_quiet (fail)
              go_wp2_with fail
              go_ret2
              exact ⟨_, _, _, _, _, rfl, Ints.below (Ints.part o20.ints (i := 1) (m := 2 * (1 + X) - 1) (by omega) (by omega)) (below_drewN (Below.refl _ _) nq), by omega, by rw [ByteArray.size_extract]; omega, ⟨p3 + 2 * (1 + X) + 1 + 1, by omega, r20.drewN nq⟩, grown_drewN G20 nq, fun q x hx => hsep (by omega) _ x hx⟩
            · have b2 : (y == 2) = false := by rw [beq_eq_false_iff_ne]; exact y2
              go_wp2_with fail
              go_ret2
              exact ⟨_, _, _, _, _, rfl, o20.ints, by omega, hts, hR, G20, fun q x hx => hsep q _ x hx⟩


/-- What the drawing of a ring hands back, to the law. -/
def RRT (w : World) (e : Ending) (w' : World) : Prop := ∃ (a : Option Addr) (n cap : Nat) (xs : List Int) (s : ByteArray), e = .returned (.tuple #[.slice a n cap, .string s]) ∧ Ints w' a n cap xs ∧ n ≤ 10 ∧ s.size ≤ 20 ∧ Below w.heap.size w w'
theorem spec_DrawRingFirst (a : Option Addr) (n cap : Nat) (bs : List Int) (w : World) (h : Bytes w a n cap bs) :
    Calls Try.prog 34 #[.slice a n cap] w (RRT w) := by
  have H1 := Lib.hid (spec_l6Open a n cap bs w h)
  go_enter Try.func34, Try.ntmps34
  go_wp2_with (first | (go_at_call 57; refine H1.out.mono ?_; rintro e w1 ⟨rfl, r1, b1⟩; have H2 := Lib.hid (spec_l91Ring w.heap.size 0 w1 r1 (by omega))) | (go_at_call 56; refine H2.out.mono ?_; rintro e w2 ⟨a2, n2, c2, xs2, s2, rfl, o2, hn2, hs2, ⟨p2, hp2, r2⟩, g2, hne⟩))
  go_ret2
  exact ⟨_, _, _, _, _, rfl, o2, hn2, hs2, below_grown b1 b1.size g2 (Nat.le_refl _)⟩
theorem spec_DrawRingMany (a : Option Addr) (n cap : Nat) (bs : List Int) (w : World) (h : Bytes w a n cap bs) :
    Calls Try.prog 29 #[.slice a n cap] w (RRT w) := by
  have H1 := Lib.hid (spec_l6Open a n cap bs w h)
  go_enter Try.func29, Try.ntmps29
  go_wp2_with (first | (go_at_call 57; refine H1.out.mono ?_; rintro e w1 ⟨rfl, r1, b1⟩; have H2 := Lib.hid (spec_l91Ring w.heap.size 0 w1 r1 (by omega))) | (go_at_call 56; refine H2.out.mono ?_; rintro e w2 ⟨a2, n2, c2, xs2, s2, rfl, o2, hn2, hs2, ⟨p2, hp2, r2⟩, g2, hne⟩))
  go_ret2
  exact ⟨_, _, _, _, _, rfl, o2, hn2, hs2, below_grown b1 b1.size g2 (Nat.le_refl _)⟩

/-- What the drawing of a ring and layers hands back, to the law. -/
def RRTL (w : World) (e : Ending) (w' : World) : Prop := ∃ (a : Option Addr) (n cap : Nat) (xs : List Int) (s : ByteArray) (b : Option Addr) (cb : Nat) (ys : List Int), e = .returned (.tuple #[.slice a n cap, .string s, .slice b n cb]) ∧ Ints w' a n cap xs ∧ n ≤ 10 ∧ s.size ≤ 20 ∧ Ints w' b n cb ys ∧ Below w.heap.size w w'
set_option maxHeartbeats 1000000 in
theorem spec_DrawRingLayers (a : Option Addr) (n cap : Nat) (bs : List Int) (w : World) (h : Bytes w a n cap bs) :
    Calls Try.prog 30 #[.slice a n cap] w (RRTL w) := by
  have H1 := Lib.hid (spec_l6Open a n cap bs w h)
  go_enter Try.func30, Try.ntmps30
  go_wp2_with (go_at_call 57; refine H1.out.mono ?_; rintro e w1 ⟨rfl, r1, b1⟩; have H2 := Lib.hid (spec_l91Ring w.heap.size 0 w1 r1 (by omega)))
  refine H2.out.mono ?_
  rintro e w2 ⟨a2, n2, c2, xs2, s2, rfl, i2, hn2, hs2, ⟨p2, hp2, r2⟩, g2, hne⟩
  have hle2 := i2.le_cap
  have B2 := below_grown b1 b1.size g2 (Nat.le_refl _)
  have H3 := Lib.hid (spec_RingFirst a2 n2 c2 xs2 s2 w2 i2 (by omega) (by unfold maxLen; omega))
  have HLN := Lib.hid (rtsR_len xs2 s2)
  have HL2 := Lib.hid i2.length
  go_wp2_with fail
  refine H3.out.mono ?_
  rintro e w3 ⟨a3, n3, c3, rfl, o3, b3⟩
  have hn3 : n3 ≤ 10 := by have := HLN.out; rw [o3.length, HL2.out] at this; omega
  have B3 := Below.call B2 B2.size b3
  have r3 := r2.below b3
  have i3 := i2.below b3
  go_wp2_with fail
  refine (spec_l91Layers w.heap.size p2 n2 n3 a3 c3 _ w3 r3 (by omega) hn2 o3.ints hn3).mono ?_
  rintro e w4 ⟨a4, c4, ys4, rfl, o4, ⟨p4, hp4, r4⟩, g4⟩
  have i4 := i3.apart g4 hne
  go_wp2_with fail
  go_ret3
  exact ⟨_, _, _, _, _, _, _, _, rfl, i4, hn2, hs2, o4.ints, below_grown B3 B3.size g4 (Nat.le_refl _)⟩

end Go.Proofs.Yteigbpmfjiofiaa
