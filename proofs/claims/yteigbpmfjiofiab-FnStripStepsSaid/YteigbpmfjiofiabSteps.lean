/-
  What the reference's l2Steps computes, by a walk.
-/
import Derived.Test.YteigbpmfjiofiabPlainT
import Derived.Test.YteigbpmfjiofiabStrip
import Derived.Test.YteigbpmfjiofiabMem3
import Derived.StillTailTactics
import Derived.IntWalk
import Derived.Deep.DeepCutAuto
import Derived.Deep.LoopGhost
namespace Go.Proofs.Yteigbpmfjiofiab
open Go.RowKit

def FirstAns (n : Nat) (xs : List Int) (s : ByteArray) (w : World) (v : Value) (wx : World) : Prop :=
  ∃ b : Bool, v = .bool b ∧ (b = true → stepsB n xs s = true) ∧ (b = false → ¬ (at0 xs 0 ≤ at0 xs 1 ∧ stepsB (n - 1) (xs.drop 1) (s.extract 1 s.size) = true)) ∧ Below w.heap.size w wx

theorem Ints.none' (w : World) (a : Option Addr) {n cap : Nat} (hn : n = 0) (h : cap ≤ maxLen) : Ints w a n cap [] := by subst hn; exact Ints.empty w a h
theorem crimpB_eq {xs : List Int} {s : ByteArray} {K : Nat} (hs : K < s.size) (h : s[K - 1]'(by omega) = s[K]) : crimpB xs s K = false := by
  unfold crimpB
  rw [bAt_get s K hs, bAt_get s (K - 1) (by omega), h, bne_self_eq_false]
  rfl
theorem crimpB_yes {xs : List Int} {s : ByteArray} {K : Nat} (hs : K < s.size) (h : ¬ s[K - 1]'(by omega) = s[K]) (h2 : at0 xs K ≤ at0 xs (K - 1)) (h3 : at0 xs K ≤ at0 xs (K + 1)) : crimpB xs s K = true := by
  unfold crimpB
  rw [bAt_get s K hs, bAt_get s (K - 1) (by omega), bne_iff_ne.2 h, decide_eq_true h2, decide_eq_true h3]
  rfl
theorem crimpB_no {xs : List Int} {s : ByteArray} {K : Nat} (h : ¬ (at0 xs K ≤ at0 xs (K - 1) ∧ at0 xs K ≤ at0 xs (K + 1))) : crimpB xs s K = false := by
  unfold crimpB
  rw [Bool.and_eq_false_iff]
  right
  rw [Bool.and_eq_false_iff]
  by_cases q : at0 xs K ≤ at0 xs (K - 1)
  · right; exact decide_eq_false fun q2 => h ⟨q, q2⟩
  · left; exact decide_eq_false q
def LastAns (n : Nat) (xs : List Int) (s : ByteArray) (w : World) (v : Value) (wx : World) : Prop :=
  ∃ b : Bool, v = .bool b ∧ (b = true → stepsB n xs s = true) ∧ (b = false → ¬ (at0 xs (n - 1) ≤ at0 xs (n - 2) ∧ stepsB (n - 1) (xs.take (n - 1)) (s.extract 0 (n - 2)) = true)) ∧ Below w.heap.size w wx
def CrimpAns (xs : List Int) (s : ByteArray) (K : Nat) (w : World) (v : Value) (wx : World) : Prop :=
  ∃ b : Bool, v = .bool (!b) ∧ crimpB xs s K = b ∧ Below w.heap.size w wx

set_option maxRecDepth 100000 in
set_option maxHeartbeats 4000000 in
theorem spec_l2Steps : ∀ n, 1 ≤ n → n ≤ 6 → ∀ (a : Option Addr) (cap : Nat) (xs : List Int) (s : ByteArray) (w : World), Ints w a n cap xs → s.size + 1 = n → lensOk xs →
    Calls Try.prog 40 #[.slice a n cap, .string s] w (RVal w (.bool (stepsB n xs s))) := by
  intro n
  induction n using Nat.strongRecOn with
  | _ n ih =>
  intro hn1 hn6 a cap xs s w hi hs hok
  have hle := hi.le_cap
  have hmx := hi.cap_max
  by_cases h1 : n = 1
  · subst h1
    go_enter Try.func40, Try.ntmps40
    go_wp2_with fail
    go_ret
    exact ⟨rfl, Below.refl _ _⟩
  · have h1b : ((n : Int) == 1) = false := by rw [beq_eq_false_iff_ne]; omega
    have h2n : 2 ≤ n := by omega
    clear h1
    have HL := Lib.hid hi.length
    have HOK := Lib.hid hok
    have HI := Lib.hid hi
    have IH1 : Hid (∀ (A : Option Addr) (m c : Nat) (ys : List Int) (t : ByteArray) (W : World), m = n - 1 → Ints W A m c ys → t.size + 1 = n - 1 → lensOk ys → Calls Try.prog 40 #[.slice A m c, .string t] W (RVal W (.bool (stepsB (n - 1) ys t)))) := fun A m c ys t W e hW ht ho => by
      subst e; exact ih (n - 1) (by omega) (by omega) (by omega) A c ys t W hW ht ho
    have IH2 : Hid (3 ≤ n → ∀ (A : Option Addr) (m c : Nat) (ys : List Int) (t : ByteArray) (W : World), m = n - 2 → Ints W A m c ys → t.size + 1 = n - 2 → lensOk ys → Calls Try.prog 40 #[.slice A m c, .string t] W (RVal W (.bool (stepsB (n - 2) ys t)))) := fun h3 A m c ys t W e hW ht ho => by
      subst e; exact ih (n - 2) (by omega) (by omega) (by omega) A c ys t W hW ht ho
    obtain ⟨b, off, rfl, hc⟩ := hi.cells (by omega)
    have HC := Lib.hid hc
    have c0 := hc 0 (by omega)
    have c1 := hc 1 (by omega)
    rw [Nat.add_zero] at c0
    have h1I : (1 : Int) < (n : Int) := by omega
    have h0n : 0 < n := by omega
    have hcap1 : ¬ cap = 1 := by omega
    have h1I' : (1 : Int) ≤ (n : Int) := by omega
    have hss : (1 : Int) ≤ (s.size : Int) := by omega
    have hs1 : 1 ≤ s.size := by omega
    clear hc hi hok ih
    have HS := Lib.hid hs
    go_enter Try.func40, Try.ntmps40
    go_upto_region 4 with fail
    go_cut [25] (fun v wx => FirstAns n xs s w v wx)
    case first =>
      by_cases h01 : xs[0]?.getD 0 ≤ xs[1]?.getD 0
      · have hd : decide (xs[0]?.getD 0 ≤ xs[1]?.getD 0) = true := decide_eq_true h01
        go_still_tail 12, (by kernel_rfl)
        change wpList _ _ _ _ _ w.drew
        have hcut := (HI.out.drew).cut' (k := 1) (by omega) (by omega)
        rw [Option.map_some, add_addr] at hcut
        have P1 := Lib.hid (IH1.out _ (n - 1) (cap - 1) _ (s.extract 1 s.size) w.drew rfl hcut (by rw [size_ext s (Nat.le_refl _)]; omega) (lensOk_drop HOK.out 1))
        clear hcut
        cases hb : stepsB (n - 1) (xs.drop 1) (s.extract 1 s.size) with
        | true =>
          rw [hb] at P1
          have HB := Lib.hid hb
          clear hb
          go_wp2_with fail
          refine P1.out.mono ?_
          rintro e w1 ⟨rfl, b1⟩
          go_wp2_with fail
          go_meet
          case rel => exact ⟨true, rfl, fun _ => steps_first h2n h01 HB.out, fun q => (by cases q), Below.call (Below.refl _ _).drew (Nat.le_refl _) b1⟩
        | false =>
          rw [hb] at P1
          have HB := Lib.hid hb
          clear hb
          go_wp2_with fail
          refine P1.out.mono ?_
          rintro e w1 ⟨rfl, b1⟩
          go_wp2_with fail
          go_meet
          case rel => exact ⟨false, rfl, fun q => (by cases q), fun _ q => (by rw [HB.out] at q; cases q.2), Below.call (Below.refl _ _).drew (Nat.le_refl _) b1⟩
      · have hd : decide (xs[0]?.getD 0 ≤ xs[1]?.getD 0) = false := decide_eq_false h01
        go_quiet (fail)
        go_wp2_with fail
        go_meet
        case rel => exact ⟨false, rfl, fun q => (by cases q), fun _ q => absurd q.1 (by unfold at0; omega), below_drewN (Below.refl _ _) _⟩
    case rest =>
      obtain ⟨b1, rfl, ht1, hf1, B1⟩ := hcut
      have HT1 := Lib.hid ht1
      have HF1 := Lib.hid hf1
      clear ht1 hf1 c0 c1
      cases b1 with
      | true =>
        have HE := Lib.hid (HT1.out rfl)
        clear HT1 HF1
        go_wp2_with fail
        go_ret
        exact ⟨ret_bool HE.out.symm, B1⟩
      | false =>
        have HI1 := Lib.hid (HI.out.below B1)
        obtain ⟨b', off', e', hc'⟩ := HI1.out.cells (by omega)
        cases e'
        have cn1 := hc' (n - 1) (by omega)
        have cn2 := hc' (n - 2) (by omega)
        clear hc'
        have h2I : (2 : Int) ≤ (n : Int) := by omega
        have hsn : s.size = n - 1 := by have := HS.out; omega
        have HSN := Lib.hid hsn
        have hsn2 : (n : Int) - 2 ≤ (s.size : Int) := by omega
        have hsn3 : n - 2 ≤ s.size := by omega
        clear hsn
        go_upto_region 6 with fail
        go_cut [47] (fun v wx => LastAns n xs s w v wx)
        case first =>
          by_cases h01 : xs[n - 1]?.getD 0 ≤ xs[n - 2]?.getD 0
          · have hd : decide (xs[n - 1]?.getD 0 ≤ xs[n - 2]?.getD 0) = true := decide_eq_true h01
            have hw1 : IntKind.i64.wrap ((n : Int) - 1) = (n : Int) - 1 := IntWalk.i64_in _ (by omega)
            have hw2 : IntKind.i64.wrap ((n : Int) - 2) = (n : Int) - 2 := IntWalk.i64_in _ (by omega)
            have ht1 : ((n : Int) - 1).toNat = n - 1 := by omega
            have ht2 : ((n : Int) - 2).toNat = n - 2 := by omega
            have hb1 : (n : Int) - 1 < (n : Int) := by omega
            have hb2 : (n : Int) - 2 < (n : Int) := by omega
            have hb3 : (n : Int) - 1 ≤ (cap : Int) := by omega
            have hb4 : (1 : Int) ≤ (n : Int) := by omega
            have hb5 : n - 1 ≤ cap := by omega
            go_still_tail 20, (by kernel_rfl)
            clear hw1 hw2 ht1 ht2
            change wpList _ _ _ _ _ wc.drew
            have P1 := Lib.hid (IH1.out _ (n - 1) cap _ (s.extract 0 (n - 2)) wc.drew rfl ((HI1.out.drew).head (k := n - 1) (by omega)) (by rw [size_ext s hsn3]; omega) (lensOk_take HOK.out (n - 1)))
            cases hb : stepsB (n - 1) (xs.take (n - 1)) (s.extract 0 (n - 2)) with
            | true =>
              rw [hb] at P1
              have HB := Lib.hid hb
              clear hb
              go_wp2_with fail
              refine P1.out.mono ?_
              rintro e w1 ⟨rfl, b1⟩
              go_wp2_with fail
              go_meet
              case rel => exact ⟨true, rfl, fun _ => steps_last h2n h01 HB.out, fun q => (by cases q), Below.call B1.drew B1.size b1⟩
            | false =>
              rw [hb] at P1
              have HB := Lib.hid hb
              clear hb
              go_wp2_with fail
              refine P1.out.mono ?_
              rintro e w1 ⟨rfl, b1⟩
              go_wp2_with fail
              go_meet
              case rel => exact ⟨false, rfl, fun q => (by cases q), fun _ q => (by rw [HB.out] at q; cases q.2), Below.call B1.drew B1.size b1⟩
          · have hd : decide (xs[n - 1]?.getD 0 ≤ xs[n - 2]?.getD 0) = false := decide_eq_false h01
            go_quiet (fail)
            go_wp2_with fail
            go_meet
            case rel => exact ⟨false, rfl, fun q => (by cases q), fun _ q => absurd q.1 (by unfold at0; omega), below_drewN B1 _⟩
        case rest =>
          obtain ⟨b2, rfl, ht2, hf2, B2⟩ := hcut
          have HT2 := Lib.hid ht2
          have HF2 := Lib.hid hf2
          clear ht2 hf2 cn1 cn2
          cases b2 with
          | true =>
            have HE := Lib.hid (HT2.out rfl)
            clear HT2 HF2
            go_wp2_with fail
            go_ret
            exact ⟨ret_bool HE.out.symm, B2⟩
          | false =>
            have HNO := Lib.hid (fun k (hk : noTo n xs s k) (hkn : n ≤ k + 1) => steps_none h2n (HF1.out rfl) (HF2.out rfl) hk hkn)
            clear HT1 HF1 HT2 HF2
            clear HI1
            have hB2s := B2.size
            go_wp2_with fail
            go_loopg [6] (n - 1) (fun g k wr => ∃ K : Nat, 1 ≤ K ∧ K + 1 ≤ n ∧ g = n - K ∧ k = .int .i64 K ∧ noTo n xs s K ∧ Below w.heap.size w wr)
            case atStart => exact ⟨1, Nat.le_refl _, by omega, rfl, rfl, noTo_one n xs s, B2⟩
            case round =>
              obtain ⟨K, hK1, hKn, hgK, rfl, hno, hB⟩ := hrel
              have HNOK := Lib.hid hno
              have HGK := Lib.hid hgK
              clear hno hgK
              by_cases hlt : K + 1 < n
              · have hltI : (K : Int) + 1 < (n : Int) := by omega
                have HIr := Lib.hid (HI.out.below hB)
                obtain ⟨b', off', e', hc'⟩ := HIr.out.cells (by omega)
                cases e'
                have k0 := hc' (K - 1) (by omega)
                have k1 := hc' K (by omega)
                have k2 := hc' (K + 1) (by omega)
                clear hc'
                have hsK : K < s.size := by have := HSN.out; omega
                have hsK1 : K - 1 < s.size := by omega
                have hw1 : IntKind.i64.wrap ((K : Int) - 1) = (K : Int) - 1 := IntWalk.i64_in _ (by omega)
                have hw2 : IntKind.i64.wrap ((K : Int) + 1) = (K : Int) + 1 := IntWalk.i64_in _ (by omega)
                have ht1 : ((K : Int) - 1).toNat = K - 1 := by omega
                have ht2 : ((K : Int) + 1).toNat = K + 1 := by omega
                have hi1 : (1 : Int) ≤ (K : Int) := by omega
                have hi2 : (K : Int) - 1 < (n : Int) := by omega
                have hi3 : (K : Int) < (n : Int) := by omega
                have hj2 : (K : Int) - 1 < (s.size : Int) := by omega
                have hj3 : (K : Int) < (s.size : Int) := by omega
                by_cases hq : s[K - 1] = s[K]
                · have hqb : ((s[K - 1].toNat : Int) == (s[K].toNat : Int)) = true := by rw [hq]; exact beq_self_eq_true _
                  have HCB : Hid (crimpB xs s K = false) := crimpB_eq hsK hq
                  clear hq
                  go_wp2_with fail
                  go_quiet (fail)
                  clear hw1 hw2
                  go_wp2_with fail
                  go_roundg (n - (K + 1))
                  case measure => have := HGK.out; omega
                  case rel => exact ⟨K + 1, by omega, by omega, rfl, by go_num, noTo_succ HNOK.out (by rw [HCB.out]; rfl), below_drewN hB _⟩
                · have hqb : ((s[K - 1].toNat : Int) == (s[K].toNat : Int)) = false := by rw [beq_eq_false_iff_ne]; intro e; exact hq (UInt8.toNat_inj.1 (by omega))
                  by_cases h2 : xs[K]?.getD 0 ≤ xs[K - 1]?.getD 0
                  · have hd2 : decide (xs[K - 1]?.getD 0 < xs[K]?.getD 0) = false := decide_eq_false (by omega)
                    by_cases h3 : xs[K]?.getD 0 ≤ xs[K + 1]?.getD 0
                    · have hd3 : decide (xs[K + 1]?.getD 0 < xs[K]?.getD 0) = false := decide_eq_false (by omega)
                      have HCB : Hid (crimpB xs s K = true) := crimpB_yes hsK hq h2 h3
                      clear hq
                      go_wp2_with fail
                      go_quiet (fail)
                      clear hw1 hw2
                      have B0 := below_drewN hB nq
                      have i0 := HIr.out.below (below_drewN (Below.refl _ wr) nq)
                      have m0 := cell_below (below_drewN (Below.refl _ wr) nq) k0
                      have m1 := cell_below (below_drewN (Below.refl _ wr) nq) k1
                      have m2 := cell_below (below_drewN (Below.refl _ wr) nq) k2
                      clear k0 k1 k2
                      generalize wr.drewN nq = W0 at B0 i0 m0 m1 m2 ⊢
                      have I0 := Lib.hid i0
                      have hz0 := B0.size
                      have g0 := lensOk_get HOK.out (k := K - 1) (by rw [HL.out]; omega)
                      have g1 := lensOk_get HOK.out (k := K) (by rw [HL.out]; omega)
                      have g2 := lensOk_get HOK.out (k := K + 1) (by rw [HL.out]; omega)
                      unfold at0 at g0 g1 g2
                      have hb1 : (K : Int) - 1 ≤ (cap : Int) := by omega
                      have hb2 : K - 1 ≤ cap := by omega
                      clear i0
                      go_wp2_with (at_builtin; refine wpList_append_ints tyInts rfl (.tmp 86) (.tmp 90) rfl w.heap.size (some ⟨W0.heap.size, 0, none⟩) 0 0 [] rfl (OwnI.lit0 W0 B0.size) (some ⟨b, off, none⟩) (K - 1) cap (xs.take (K - 1)) rfl ((I0.out.below ((Below.refl _ _).alloc (Nat.le_refl _) _)).head (k := K - 1) (by omega)) (by omega) (by simp; omega) ?_; intro A1 c1 w1 o1 ga e1; simp only [Nat.zero_add, List.nil_append] at o1)
                      have bl1 : Below W0.heap.size W0 w1 := Below.appended ((Below.refl _ W0).alloc (Nat.le_refl _) (.cells #[] 3)) (by simp) ga (fun x e => by cases e; exact Nat.le_refl _)
                      have B1' := Below.call B0 B0.size bl1
                      have I1 := Lib.hid (I0.out.below bl1)
                      have k0 := cell_below bl1 m0
                      have k1 := cell_below bl1 m1
                      have k2 := cell_below bl1 m2
                      have hz1 := B1'.size
                      clear ga e1 m0 m1 m2
                      have hw1 : IntKind.i64.wrap ((K : Int) - 1) = (K : Int) - 1 := IntWalk.i64_in _ (by omega)
                      have hw2 : IntKind.i64.wrap ((K : Int) + 1) = (K : Int) + 1 := IntWalk.i64_in _ (by omega)
                      have hw3 : IntKind.i64.wrap (xs[K - 1]?.getD 0 + xs[K + 1]?.getD 0) = xs[K - 1]?.getD 0 + xs[K + 1]?.getD 0 := IntWalk.i64_in _ (by omega)
                      have hw4 : IntKind.i64.wrap (xs[K - 1]?.getD 0 + xs[K + 1]?.getD 0 - xs[K]?.getD 0) = xs[K - 1]?.getD 0 + xs[K + 1]?.getD 0 - xs[K]?.getD 0 := IntWalk.i64_in _ (by omega)
                      have hi0 : (0 : Int) ≤ (K : Int) + 1 := by omega
                      have hq1 : K - 1 ≤ 4000000 := by omega
                      have hq2 : w.heap.size ≤ w1.heap.size + 1 := by omega
                      go_upto_region 13 with fail
                      go_cut [7] (fun v wx => ∃ (A : Option Addr) (c : Nat), v = .slice A K c ∧ OwnI wx w.heap.size A K c (xs.take (K - 1) ++ [xs[K - 1]?.getD 0 + xs[K + 1]?.getD 0 - xs[K]?.getD 0]) ∧ Below w.heap.size w wx)
                      case first =>
                        clear HIr HI HC IH1 IH2 HNO HNOK HGK HCB I0 I1 B0 bl1 hB B1 B2
                        go_region_law (refine step_append_int tyInts rfl (.tmp 92) (.tmp 109) rfl w.heap.size A1 (K - 1) c1 (xs.take (K - 1)) (by simp [Act.eval]) (o1.below (((Below.refl _ _).alloc (Nat.le_refl _) _).drew)) w1.heap.size (xs[K - 1]?.getD 0 + xs[K + 1]?.getD 0 - xs[K]?.getD 0) (by simp [Act.eval]) (by simp) hq1 (by simpa using hq2) ?_; intro A2 c2 w2 o2 gb e2; have bl3 := Below.appended ((B1'.alloc B1'.size _).drew) (by simpa using hq2) gb o1.base_le; rw [show K - 1 + 1 = K by omega] at o2; clear gb e2)
                        all_goals
                          clear hw1 hw2 hw3 hw4
                          go_wp2_with fail
                          go_meet
                          case rel => exact ⟨A2, c2, rfl, o2, bl3⟩
                      case rest =>
                        obtain ⟨A2, c2, rfl, o2, bl3⟩ := hcut
                        clear hw1 hw2 hw3 hw4 o1 k0 k1 k2
                        by_cases hcK : cap = K + 2
                        · have hnK : n = K + 2 := by omega
                          clear hlt hltI
                          subst hcK hnK
                          have hx1 : (K : Int) - 1 < (K : Int) + 2 := by omega
                          have hx2 : (K : Int) < (K : Int) + 2 := by omega
                          have hx3 : (K : Int) + 1 < (K : Int) + 2 := by omega
                          have hK2 : (K : Int) + 2 ≤ ((K + 2) : Int) := by omega
                          have hK3 : K + 2 ≤ (K + 2) := by omega
                          go_wp2_with (at_builtin; refine wpList_append_ints tyInts rfl (.tmp 111) (.tmp 115) rfl w.heap.size A2 K c2 _ rfl o2 _ _ _ [] rfl (Ints.none' _ _ (by omega) (by unfold maxLen; omega)) (by omega) bl3.size ?_; intro A3 c3 w3 o3p gc e3; have bl4 := Below.appended bl3 bl3.size gc o2.base_le; clear gc e3)
                          have o3 : OwnI w3 w.heap.size A3 K c3 (crimpX xs K) := by unfold crimpX at0; rw [List.drop_of_length_le (by rw [HL.out]; omega)]; rw [Nat.sub_self, Nat.add_zero] at o3p; exact o3p
                          clear o3p
                          have hw1 : IntKind.i64.wrap ((K : Int) - 1) = (K : Int) - 1 := IntWalk.i64_in _ (by omega)
                          have hw2 : IntKind.i64.wrap ((K : Int) + 1) = (K : Int) + 1 := IntWalk.i64_in _ (by omega)
                          have hi0 : (0 : Int) ≤ (K : Int) + 1 := by omega
                          have hu1 : (K : Int) - 1 ≤ (s.size : Int) := by omega
                          have hu2 : (K : Int) + 1 ≤ (s.size : Int) := by omega
                          have hu3 : K - 1 ≤ s.size := by omega
                          have hu4 : K + 1 ≤ s.size := by omega
                          have he1 : (s.extract 0 (K - 1)).size ≤ 10 := by rw [size_ext s (by omega)]; omega
                          have he2 : (s.extract (K + 1) s.size).size ≤ 10 := by rw [size_ext s (Nat.le_refl _)]; omega
                          have he3 : (s.extract 0 (K - 1)).size + (s.extract (K + 1) s.size).size ≤ 9223372036854775807 := by omega
                          have hadd : ∀ W : World, (Op.stringOp .add (s.extract 0 (K - 1)) (s.extract (K + 1) s.size)).run Try.prog W = .ok (.string (crimpS s K)) W := fun W => run_string_add_sum (P := Try.prog) W _ _ he3
                          clear he1 he2 he3
                          have HCL := Lib.hid (crimpS_size hK1 hsK)
                          have PF := Lib.hid (IH2.out (by omega) A3 (K) c3 (crimpX xs K) (crimpS s K) w3.drew (by omega) o3.ints.drew (by rw [HCL.out, HSN.out]; omega) (lensOk_crimp HOK.out hK1 (by rw [HL.out]; omega) HCB.out))
                          go_still_tail 10, (by kernel_rfl)
                          clear hw1 hw2 hadd
                          change wpList _ _ _ _ _ w3.drew
                          cases hb : stepsB ((K + 2) - 2) (crimpX xs K) (crimpS s K) with
                          | true =>
                            rw [hb] at PF
                            have HE := Lib.hid (steps_crimp (n := (K + 2)) hK1 (by omega) HCB.out hb)
                            clear hb
                            go_wp2_with fail
                            refine PF.out.mono ?_
                            rintro e w4 ⟨rfl, b4⟩
                            go_wp2_with fail
                            go_ret
                            exact ⟨ret_bool HE.out.symm, Below.call bl4.drew bl4.size b4⟩
                          | false =>
                            rw [hb] at PF
                            have HE := Lib.hid hb
                            clear hb
                            go_wp2_with fail
                            refine PF.out.mono ?_
                            rintro e w4 ⟨rfl, b4⟩
                            go_wp2_with fail
                            go_roundg ((K + 2) - (K + 1))
                            case measure => have := HGK.out; omega
                            case rel => exact ⟨K + 1, by omega, by omega, rfl, by go_num, noTo_succ HNOK.out (by rw [HE.out, Bool.and_false]), Below.call bl4.drew bl4.size b4⟩
                        · skip
                          have hK2 : (K : Int) + 2 ≤ (n : Int) := by omega
                          have hK3 : K + 2 ≤ n := by omega
                          go_wp2_with (at_builtin; refine wpList_append_ints tyInts rfl (.tmp 111) (.tmp 115) rfl w.heap.size A2 K c2 _ rfl o2 (some ⟨b, off + (K + 2), none⟩) (n - (K + 2)) (cap - (K + 2)) (xs.drop (K + 2)) rfl (by have q := (HI.out.below bl3).cut' (k := K + 2) (by omega) (by omega); rwa [Option.map_some, add_addr] at q) (by omega) bl3.size ?_; intro A3 c3 w3 o3p gc e3; have bl4 := Below.appended bl3 bl3.size gc o2.base_le; clear gc e3)
                          have o3 : OwnI w3 w.heap.size A3 (K + (n - (K + 2))) c3 (crimpX xs K) := o3p
                          clear o3p
                          have hw1 : IntKind.i64.wrap ((K : Int) - 1) = (K : Int) - 1 := IntWalk.i64_in _ (by omega)
                          have hw2 : IntKind.i64.wrap ((K : Int) + 1) = (K : Int) + 1 := IntWalk.i64_in _ (by omega)
                          have hi0 : (0 : Int) ≤ (K : Int) + 1 := by omega
                          have hu1 : (K : Int) - 1 ≤ (s.size : Int) := by omega
                          have hu2 : (K : Int) + 1 ≤ (s.size : Int) := by omega
                          have hu3 : K - 1 ≤ s.size := by omega
                          have hu4 : K + 1 ≤ s.size := by omega
                          have he1 : (s.extract 0 (K - 1)).size ≤ 10 := by rw [size_ext s (by omega)]; omega
                          have he2 : (s.extract (K + 1) s.size).size ≤ 10 := by rw [size_ext s (Nat.le_refl _)]; omega
                          have he3 : (s.extract 0 (K - 1)).size + (s.extract (K + 1) s.size).size ≤ 9223372036854775807 := by omega
                          have hadd : ∀ W : World, (Op.stringOp .add (s.extract 0 (K - 1)) (s.extract (K + 1) s.size)).run Try.prog W = .ok (.string (crimpS s K)) W := fun W => run_string_add_sum (P := Try.prog) W _ _ he3
                          clear he1 he2 he3
                          have HCL := Lib.hid (crimpS_size hK1 hsK)
                          have PF := Lib.hid (IH2.out (by omega) A3 (K + (n - (K + 2))) c3 (crimpX xs K) (crimpS s K) w3.drew (by omega) o3.ints.drew (by rw [HCL.out, HSN.out]; omega) (lensOk_crimp HOK.out hK1 (by rw [HL.out]; omega) HCB.out))
                          go_still_tail 10, (by kernel_rfl)
                          clear hw1 hw2 hadd
                          change wpList _ _ _ _ _ w3.drew
                          cases hb : stepsB (n - 2) (crimpX xs K) (crimpS s K) with
                          | true =>
                            rw [hb] at PF
                            have HE := Lib.hid (steps_crimp (n := n) hK1 (by omega) HCB.out hb)
                            clear hb
                            go_wp2_with fail
                            refine PF.out.mono ?_
                            rintro e w4 ⟨rfl, b4⟩
                            go_wp2_with fail
                            go_ret
                            exact ⟨ret_bool HE.out.symm, Below.call bl4.drew bl4.size b4⟩
                          | false =>
                            rw [hb] at PF
                            have HE := Lib.hid hb
                            clear hb
                            go_wp2_with fail
                            refine PF.out.mono ?_
                            rintro e w4 ⟨rfl, b4⟩
                            go_wp2_with fail
                            go_roundg (n - (K + 1))
                            case measure => have := HGK.out; omega
                            case rel => exact ⟨K + 1, by omega, by omega, rfl, by go_num, noTo_succ HNOK.out (by rw [HE.out, Bool.and_false]), Below.call bl4.drew bl4.size b4⟩
                    · have hd3 : decide (xs[K + 1]?.getD 0 < xs[K]?.getD 0) = true := decide_eq_true (by omega)
                      have HCB : Hid (crimpB xs s K = false) := crimpB_no (fun q => h3 q.2)
                      clear hq h3
                      go_wp2_with fail
                      go_quiet (fail)
                      clear hw1 hw2
                      go_wp2_with fail
                      go_roundg (n - (K + 1))
                      case measure => have := HGK.out; omega
                      case rel => exact ⟨K + 1, by omega, by omega, rfl, by go_num, noTo_succ HNOK.out (by rw [HCB.out]; rfl), below_drewN hB _⟩
                  · have hd2 : decide (xs[K - 1]?.getD 0 < xs[K]?.getD 0) = true := decide_eq_true (by omega)
                    have HCB : Hid (crimpB xs s K = false) := crimpB_no (fun q => h2 q.1)
                    clear hq h2
                    go_wp2_with fail
                    go_quiet (fail)
                    clear hw1 hw2
                    go_wp2_with fail
                    go_roundg (n - (K + 1))
                    case measure => have := HGK.out; omega
                    case rel => exact ⟨K + 1, by omega, by omega, rfl, by go_num, noTo_succ HNOK.out (by rw [HCB.out]; rfl), below_drewN hB _⟩
              · have HE := Lib.hid (HNO.out K HNOK.out (by omega))
                have hltI : ¬ (K : Int) + 1 < (n : Int) := by omega
                go_wp2_with fail
                go_ret
                exact ⟨ret_bool HE.out.symm, hB⟩

end Go.Proofs.Yteigbpmfjiofiab
