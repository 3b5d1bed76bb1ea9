/-
  What the drawing of layers hands back: some list of the length asked for.
-/
import Derived.Test.YteigbpmfjiofiaaDraw2
import Derived.Deep.DeepCutAuto
import Derived.Deep.RegionWith
namespace Go.Proofs.Yteigbpmfjiofiaa
open Go.RowKit

/-- What the drawing of a list hands back. -/
def RList (w : World) (g p q n : Nat) (e : Ending) (w' : World) : Prop := ∃ (a : Option Addr) (cap : Nat) (xs : List Int), e = .returned (.slice a n cap) ∧ OwnI w' w.heap.size a n cap xs ∧ (∃ p', p' ≤ p + q ∧ Rd w' g p') ∧ w.grownBy w' (some g)

/-- Some list, the reader and the rest at a place in the walk. -/
def AtL (w : World) (g P n : Nat) (v : Value) (w' : World) : Prop := ∃ (A : Option Addr) (c : Nat) (xs : List Int), v = .slice A n c ∧ OwnI w' w.heap.size A n c xs ∧ (∃ p', p' ≤ P ∧ Rd w' g p') ∧ w.grownBy w' (some g)

set_option maxRecDepth 100000 in
set_option maxHeartbeats 2000000 in
theorem spec_l91Layers (g p n m : Nat) (a : Option Addr) (cap : Nat) (ys : List Int) (w : World) (h : Rd w g p) (hp : p ≤ 1000) (hn : n ≤ 10) (hi : Ints w a m cap ys) (hm : m ≤ 10) :
    Calls Try.prog 58 #[.pointer (some ⟨g, 0, none⟩), .int .i64 n, .slice a m cap] w (RList w g p 30 n) := by
  have hgw := h.lt
  have hle := hi.le_cap
  have h0 := h.below ((Below.refl _ _).alloc (Nat.le_refl _) (.cells #[] 3))
  have HP := Lib.hid (fun (P : Nat) (n : Int) (W : World) (hr : Rd W g P) (q1 : P ≤ 100000) (q2 : 1 ≤ n) (q3 : n ≤ 1000000) => spec_pick g P n W hr q1 q2 q3)
  go_enter Try.func58, Try.ntmps58
  go_upto_if 20 with (at_builtin; refine wpList_append_ints tyInts rfl (.tmp 14) (.tmp 15) rfl w.heap.size (some ⟨w.heap.size, 0, none⟩) 0 0 [] rfl (OwnI.lit0 w (Nat.le_refl _)) a m cap ys rfl (hi.below ((Below.refl _ _).alloc (Nat.le_refl _) _)) (by omega) (by simp) ?_; intro A1 c1 w1 o1 g1 e1; simp only [Nat.zero_add, List.nil_append] at o1)
  have r1 := h0.own g1 (fun x e => by cases e; exact hgw)
  have G1 := grown_own (grown_alloc w (.cells #[] 3) (some g)) g1 (fun x e => by cases e; exact Nat.le_refl _)
  clear g1 e1 h0
  go_cut [7] (fun s7 wx => AtL w g (p + 10) n s7 wx)
  case first =>
    by_cases hmn : m = n
    · subst hmn
      go_wp2_with fail
      go_meet
      case rel => exact ⟨_, _, _, rfl, o1, ⟨p, by omega, r1⟩, G1⟩
    · have hmb : ((m : Int) != (n : Int)) = true := by rw [bne_iff_ne]; omega
      clear hmn
      rw [hmb]
      clear hmb
      go_wp2_with fail
      go_loopw [7, 8] (fun v i wr => ∃ (k : Nat) (A : Option Addr) (c : Nat) (xs : List Int), k ≤ n ∧ i = .int .i64 k ∧ v = .slice A k c ∧ OwnI wr w.heap.size A k c xs ∧ Rd wr g p ∧ w.grownBy wr (some g)) (fun _ i _ => n - (intOf i).toNat)
      case atStart => exact ⟨0, _, _, _, Nat.zero_le _, rfl, rfl, OwnI.lit0 w1 G1.4, r1.below ((Below.refl _ _).alloc (Nat.le_refl _) _), grown_trans G1 (grown_alloc _ _ _)⟩
      case round =>
        obtain ⟨k, A, c, xs, hk, rfl, rfl, HO, hr, hg⟩ := hrel
        have hsz := hg.4
        by_cases hlt : k < n
        · go_wp2_with (at_builtin; refine wpList_append_int tyInts rfl (.tmp 27) (.tmp 29) rfl w.heap.size A k c xs rfl (HO.below ((Below.refl _ _).alloc (Nat.le_refl _) _)) wr.heap.size (k : Int) rfl (by simp) (by omega) (by simp; omega) ?_; intro A3 c3 w3 o3 g3 e3)
          have G3 := grown_own (grown_trans hg (grown_alloc wr _ (some g))) g3 HO.base_le
          have r3 := (hr.below ((Below.refl _ _).alloc (Nat.le_refl _) _)).own g3 (HO.ge.mono hgw)
          go_roundw
          case rel => exact ⟨k + 1, A3, c3, _, by omega, by go_num, rfl, o3, r3, G3⟩
          case measure => simp [intOf]; omega
        · obtain rfl : k = n := by omega
          obtain ⟨wo, rfl⟩ : ∃ wo : World, wo = wr := ⟨_, rfl⟩
          have hcc := HO.ints.le_cap
          go_wp2_with fail
          go_loopw [9, 10, 11] (fun i _ _ wr => ∃ (j : Nat) (xs : List Int), 1 ≤ j ∧ (j ≤ k ∨ j = 1) ∧ i = .int .i64 j ∧ OwnI wr w.heap.size A k c xs ∧ Rd wr g (p + j - 1) ∧ w.grownBy wr (some g)) (fun i _ _ _ => k - (intOf i).toNat)
          case atStart => exact ⟨1, xs, Nat.le_refl _, .inr rfl, rfl, HO, by rw [Nat.add_sub_cancel]; exact hr, hg⟩
          case round =>
            obtain ⟨j, zs, hj1, hj2, rfl, HO2, hr2, hg2⟩ := hrel
            by_cases hlt2 : j < k
            · rcases Own.form HO2 with ⟨_, q0, _⟩ | ⟨gA, rfl, hgA, _⟩
              · exact absurd q0 (by omega)
              · have H4 := Lib.hid (HP.out (p + j - 1) ((j : Int) + 1) wr hr2 (by omega) (by omega) (by omega))
                go_wp2_with fail
                refine H4.out.mono ?_
                rintro e w4 ⟨z, rfl, ⟨hz0, hz1⟩, r4, g4⟩
                obtain ⟨Z, rfl⟩ := Int.eq_ofNat_of_zero_le hz0
                have o4 := HO2.asked g4 hgw
                have G4 := grown_trans hg2 g4
                have cj := o4.cell (j := j) (by omega)
                have fj := o4.frozen j
                have cz := o4.cell (j := Z) (by omega)
                have o5 := o4.stored j (zs[Z]?.getD 0)
                have cz5 := o5.cell (j := Z) (by omega)
                have fz5 := o5.frozen Z
                have o6 := o5.stored Z (zs[j]?.getD 0)
                have r6 := (r4.set (b := gA) (k := j) (u := .int .i64 (zs[Z]?.getD 0)) (by omega)).set (b := gA) (k := Z) (u := .int .i64 (zs[j]?.getD 0)) (by omega)
                have G6 := grown_set (k := Z) (u := .int .i64 (zs[j]?.getD 0)) (grown_set (k := j) (u := .int .i64 (zs[Z]?.getD 0)) G4 hgA) hgA
                have hZk : Z < k := by omega
                go_wp2_with fail
                go_roundw
                case rel => exact ⟨j + 1, _, by omega, by omega, by go_num, o6, by rw [show p + (j + 1) - 1 = p + j - 1 + 1 by omega]; exact r6, G6⟩
                case measure => simp [intOf]; omega
            · go_wp2_with fail
              go_meet
              case rel => exact ⟨_, _, _, rfl, HO2, ⟨p + j - 1, by omega, hr2⟩, hg2⟩
  case rest =>
    obtain ⟨A, c, xs, rfl, o2, ⟨p2, hp2, r2⟩, G2⟩ := hcut
    clear o1 r1 G1
    have hcc := o2.ints.le_cap
    go_upto_region 15 with fail
    go_cut [7, 61] (fun s7 s61 wx => ∃ b : Bool, s7 = .slice A n c ∧ s61 = .bool b ∧ (b = true → 1 < n) ∧ OwnI wx w.heap.size A n c xs ∧ (∃ p', p' ≤ p + 11 ∧ Rd wx g p') ∧ w.grownBy wx (some g))
    case first =>
      by_cases h1 : 1 < n
      · have H4 := Lib.hid (HP.out p2 3 wc r2 (by omega) (by omega) (by omega))
        go_wp2_with fail
        refine H4.out.mono ?_
        rintro e w4 ⟨z, rfl, ⟨hz0, hz1⟩, r4, g4⟩
        go_wp2_with fail
        go_meet
        case rel => exact ⟨_, rfl, rfl, fun _ => h1, o2.asked g4 hgw, ⟨p2 + 1, by omega, r4⟩, grown_trans G2 g4⟩
      · go_wp2_with fail
        go_meet
        case rel => exact ⟨false, rfl, by simp, (fun q => by cases q), o2, ⟨p2, by omega, r2⟩, G2⟩
    case rest =>
      obtain ⟨b, rfl, rfl, hb1, o3, ⟨p3, hp3, r3⟩, G3⟩ := hcut
      clear o2 r2 G2
      go_upto_if 61 with fail
      go_cut [7] (fun s7 wx => AtL w g (p + 12) n s7 wx)
      case first =>
        cases b with
        | false =>
          go_wp2_with fail
          go_meet
          case rel => exact ⟨_, _, _, rfl, o3, ⟨p3, by omega, r3⟩, G3⟩
        | true =>
          have h1 := hb1 rfl
          clear hb1
          rcases Own.form o3 with ⟨_, q0, _⟩ | ⟨gA, rfl, hgA, _⟩
          · exact absurd q0 (by omega)
          · have H4 := Lib.hid (HP.out p3 ((n : Int) - 1) wc r3 (by omega) (by omega) (by omega))
            go_wp2_with fail
            refine H4.out.mono ?_
            rintro e w4 ⟨z, rfl, ⟨hz0, hz1⟩, r4, g4⟩
            obtain ⟨Z, rfl⟩ := Int.eq_ofNat_of_zero_le hz0
            have o4 := o3.asked g4 hgw
            have G4 := grown_trans G3 g4
            have cj := o4.cell (j := Z) (by omega)
            have fj := o4.frozen Z
            have cz := o4.cell (j := Z + 1) (by omega)
            have o5 := o4.stored Z (xs[Z + 1]?.getD 0)
            have cz5 := o5.cell (j := Z + 1) (by omega)
            have fz5 := o5.frozen (Z + 1)
            have o6 := o5.stored (Z + 1) (xs[Z]?.getD 0)
            have r6 := (r4.set (b := gA) (k := Z) (u := .int .i64 (xs[Z + 1]?.getD 0)) (by omega)).set (b := gA) (k := Z + 1) (u := .int .i64 (xs[Z]?.getD 0)) (by omega)
            have G6 := grown_set (k := Z + 1) (u := .int .i64 (xs[Z]?.getD 0)) (grown_set (k := Z) (u := .int .i64 (xs[Z + 1]?.getD 0)) G4 hgA) hgA
            go_wp2_with fail
            go_meet
            case rel => exact ⟨_, _, _, rfl, o6, ⟨p3 + 1, by omega, r6⟩, G6⟩
      case rest =>
        obtain ⟨A2, c2, xs2, rfl, o4, ⟨p4, hp4, r4⟩, G4⟩ := hcut
        clear o3 r3 G3 hcc hb1
        have hcc := o4.ints.le_cap
        go_upto_region 20 with fail
        go_cut [7, 89] (fun s7 s89 wx => ∃ b : Bool, s7 = .slice A2 n c2 ∧ s89 = .bool b ∧ (b = true → 0 < n) ∧ OwnI wx w.heap.size A2 n c2 xs2 ∧ (∃ p', p' ≤ p + 13 ∧ Rd wx g p') ∧ w.grownBy wx (some g))
        case first =>
          by_cases h1 : 0 < n
          · have H4 := Lib.hid (HP.out p4 30 wc r4 (by omega) (by omega) (by omega))
            go_wp2_with fail
            refine H4.out.mono ?_
            rintro e w5 ⟨z, rfl, ⟨hz0, hz1⟩, r5, g5⟩
            go_wp2_with fail
            go_meet
            case rel => exact ⟨_, rfl, rfl, fun _ => h1, o4.asked g5 hgw, ⟨p4 + 1, by omega, r5⟩, grown_trans G4 g5⟩
          · go_wp2_with fail
            go_meet
            case rel => exact ⟨false, rfl, by simp, (fun q => by cases q), o4, ⟨p4, by omega, r4⟩, G4⟩
        case rest =>
          obtain ⟨b, rfl, rfl, hb1, o5, ⟨p5, hp5, r5⟩, G5⟩ := hcut
          clear o4 r4 G4
          cases b with
          | false =>
            go_wp2_with fail
            go_ret
            exact ⟨_, _, _, rfl, o5, ⟨p5, by omega, r5⟩, G5⟩
          | true =>
            have h1 := hb1 rfl
            clear hb1
            rcases Own.form o5 with ⟨_, q0, _⟩ | ⟨gA, rfl, hgA, hgl⟩
            · exact absurd q0 (by omega)
            · have cn := o5.cell (j := n - 1) (by omega)
              generalize xs2[n - 1]?.getD 0 = X at cn
              have c0 := o5.cell (j := 0) h1
              have f0 := o5.frozen 0
              go_wp2_with fail
              have w9 : IntKind.i64.wrap ((n : Int) - 1) = (n : Int) - 1 := IntWalk.i64_in _ (by omega)
              have z9 : 0 ≤ (n : Int) - 1 := by omega
              have t9 : ((n : Int) - 1).toNat = n - 1 := by omega
              have i9 : (n : Int) - 1 < n := by omega
              have i8 : (0 : Int) < n := by omega
              have hz5 := G5.4
              have HLB : Hid (∀ (W : World) (Z : Nat), Z < 3 → ∃ v : Int, (W.alloc (.cells #[.int .i64 (-1), .int .i64 (n : Int), .int .i64 X] 3)).cell? ⟨W.heap.size, Z, none⟩ = some (.int .i64 v)) := fun W Z hZ => by
                match Z, hZ with
                | 0, _ => exact ⟨-1, by simp⟩
                | 1, _ => exact ⟨n, by simp⟩
                | 2, _ => exact ⟨X, by simp⟩
              have HC1 : Hid (Calls Try.prog 83 #[.pointer (some ⟨g, 0, none⟩), .int .i64 3] wc.drew (fun e w6 => ∃ (Z : Nat) (v : Int), e = .returned (.int .i64 (Z : Int)) ∧ Z < 3 ∧ w6.cell? ⟨gA, n - 1, none⟩ = some (.int .i64 X) ∧ (w6.alloc (.cells #[.int .i64 (-1), .int .i64 (n : Int), .int .i64 X] 3)).cell? ⟨w6.heap.size, Z, none⟩ = some (.int .i64 v) ∧ OwnI (w6.alloc (.cells #[.int .i64 (-1), .int .i64 (n : Int), .int .i64 X] 3)) w.heap.size (some ⟨gA, 0, none⟩) n c2 xs2 ∧ Rd (w6.alloc (.cells #[.int .i64 (-1), .int .i64 (n : Int), .int .i64 X] 3)) g (p5 + 1) ∧ w.grownBy (w6.alloc (.cells #[.int .i64 (-1), .int .i64 (n : Int), .int .i64 X] 3)) (some g))) :=
                (HP.out p5 3 wc.drew (r5.below (Below.refl _ _).drew) (by omega) (by omega) (by omega)).mono fun e w6 ⟨z, he, ⟨hz0, hz1⟩, r6, g6⟩ => by
                  obtain ⟨Z, rfl⟩ := Int.eq_ofNat_of_zero_le hz0
                  obtain ⟨v, hv⟩ := HLB.out w6 Z (by omega)
                  exact ⟨Z, v, he, by omega, (World.cell?_of_block (a := ⟨gA, n - 1, none⟩) (g6.5 gA hgl (by intro q; injection q with q; omega))).trans cn, hv, (o5.drew.asked g6 hgw).below ((Below.refl _ _).alloc (Nat.le_refl _) _), r6.below ((Below.refl _ _).alloc (Nat.le_refl _) _), grown_trans (grown_trans (grown_drewN G5 1) g6) (grown_alloc w6 _ (some g))⟩
              have HC2 : Hid (Calls Try.prog 83 #[.pointer (some ⟨g, 0, none⟩), .int .i64 3] (wc.alloc (.cells #[.int .i64 (-1), .int .i64 (n : Int), .int .i64 X] 3)).drew (fun e w6 => ∃ (Z : Nat) (v : Int), e = .returned (.int .i64 (Z : Int)) ∧ Z < 3 ∧ w6.cell? ⟨wc.heap.size, Z, none⟩ = some (.int .i64 v) ∧ OwnI w6 w.heap.size (some ⟨gA, 0, none⟩) n c2 xs2 ∧ Rd w6 g (p5 + 1) ∧ w.grownBy w6 (some g))) :=
                (HP.out p5 3 (wc.alloc (.cells #[.int .i64 (-1), .int .i64 (n : Int), .int .i64 X] 3)).drew (r5.below ((Below.refl _ _).alloc (Nat.le_refl _) _).drew) (by omega) (by omega) (by omega)).mono fun e w6 ⟨z, he, ⟨hz0, hz1⟩, r6, g6⟩ => by
                  obtain ⟨Z, rfl⟩ := Int.eq_ofNat_of_zero_le hz0
                  obtain ⟨v, hv⟩ := HLB.out wc Z (by omega)
                  exact ⟨Z, v, he, by omega, (World.cell?_of_block (a := ⟨wc.heap.size, Z, none⟩) (g6.5 wc.heap.size (World.block_lt_of_cell? _ _ hv) (by intro q; injection q with q; omega))).trans hv, (o5.below ((Below.refl _ _).alloc (Nat.le_refl _) (.cells #[.int .i64 (-1), .int .i64 (n : Int), .int .i64 X] 3)).drew).asked g6 hgw, r6, grown_trans (grown_drewN (grown_trans G5 (grown_alloc wc (.cells #[.int .i64 (-1), .int .i64 (n : Int), .int .i64 X] 3) (some g))) 1) g6⟩
              go_region_with (first
                | (go_at_call 83; refine HC1.out.mono ?_; rintro e w6 ⟨Z, v, rfl, hZ, cn6, hv, o7, r7, G7⟩; have c7 := o7.cell (j := 0) h1; have f7 := o7.frozen 0; have i7 : (Z : Int) < 3 := by omega)
                | (go_at_call 83; refine HC2.out.mono ?_; rintro e w6 ⟨Z, v, rfl, hZ, hv, o7, r7, G7⟩; have c7 := o7.cell (j := 0) h1; have f7 := o7.frozen 0; have i7 : (Z : Int) < 3 := by omega))
              all_goals
                clear w9 z9 t9 i9
                go_wp2_with fail
                go_ret
                exact ⟨_, _, _, rfl, o7.stored 0 v, ⟨p5 + 1, by omega, r7.set (by omega)⟩, grown_set G7 hgA⟩

/-- A number of stamps. -/
def RNum (w : World) (g p q : Nat) (e : Ending) (w' : World) : Prop := ∃ x : Int, e = .returned (.int .i64 x) ∧ (-1 ≤ x ∧ x ≤ 8) ∧ (∃ p', p' ≤ p + q ∧ Rd w' g p') ∧ w.grownBy w' (some g)

end Go.Proofs.Yteigbpmfjiofiaa
