/-
  What the program's foldable and both StripFolds compute, by walks.
-/
import Derived.Test.YtahbflbhkalehaaStepsJ
import Derived.StillTailTactics
namespace Go.Proofs.Ytahbflbhkalehaa
open Go.RowKit

set_option maxRecDepth 100000 in
set_option maxHeartbeats 4000000 in
theorem impl_foldable : ∀ n, 1 ≤ n → n ≤ 6 → ∀ (a : Option Addr) (cap : Nat) (xs : List Int) (s : ByteArray) (w : World), Ints w a n cap xs → s.size + 1 = n → lensOk xs →
    Calls Try.prog 18 #[.agg #[.slice a n cap, .string s]] w (RVal w (.bool (stepsB n xs s))) := by
  intro n
  induction n using Nat.strongRecOn with
  | _ n ih =>
  intro hn1 hn6 a cap xs s w hi hs hok
  have hle := hi.le_cap
  have hmx := hi.cap_max
  by_cases h1 : n = 1
  · subst h1
    go_enter Try.func18, Try.ntmps18
    go_wp2_with fail
    go_ret
    exact ⟨rfl, (Below.refl _ _).alloc (Nat.le_refl _) _⟩
  · have h1b : ((n : Int) == 1) = false := by rw [beq_eq_false_iff_ne]; omega
    have h2n : 2 ≤ n := by omega
    clear h1
    have HL := Lib.hid hi.length
    have HOK := Lib.hid hok
    have IH1 : Hid (∀ (A : Option Addr) (m c : Nat) (ys : List Int) (t : ByteArray) (W : World), m = n - 1 → Ints W A m c ys → t.size + 1 = n - 1 → lensOk ys → Calls Try.prog 18 #[.agg #[.slice A m c, .string t]] W (RVal W (.bool (stepsB (n - 1) ys t)))) := fun A m c ys t W e hW ht ho => by
      subst e; exact ih (n - 1) (by omega) (by omega) (by omega) A c ys t W hW ht ho
    have IH2 : Hid (3 ≤ n → ∀ (A : Option Addr) (m c : Nat) (ys : List Int) (t : ByteArray) (W : World), m = n - 2 → Ints W A m c ys → t.size + 1 = n - 2 → lensOk ys → Calls Try.prog 18 #[.agg #[.slice A m c, .string t]] W (RVal W (.bool (stepsB (n - 2) ys t)))) := fun h3 A m c ys t W e hW ht ho => by
      subst e; exact ih (n - 2) (by omega) (by omega) (by omega) A c ys t W hW ht ho
    obtain ⟨b, off, rfl, _⟩ := hi.cells (by omega)
    have bb : Below w.heap.size w (w.alloc (.cells #[.slice (some ⟨b, off, none⟩) n cap, .string s] 42)) := (Below.refl _ _).alloc (Nat.le_refl _) _
    have q0 : (w.alloc (.cells #[.slice (some ⟨b, off, none⟩) n cap, .string s] 42)).cell? ⟨w.heap.size, 0, none⟩ = some (.slice (some ⟨b, off, none⟩) n cap) := by simp
    have q1 : (w.alloc (.cells #[.slice (some ⟨b, off, none⟩) n cap, .string s] 42)).cell? ⟨w.heap.size, 1, none⟩ = some (.string s) := by simp
    obtain ⟨W1, hW1⟩ : ∃ W1, w.alloc (.cells #[.slice (some ⟨b, off, none⟩) n cap, .string s] 42) = W1 := ⟨_, rfl⟩
    rw [hW1] at bb q0 q1
    have HI := Lib.hid (hi.below bb)
    obtain ⟨b', off', e', hc⟩ := HI.out.cells (by omega)
    cases e'
    have c0 := hc 0 (by omega)
    have c1 := hc 1 (by omega)
    rw [Nat.add_zero] at c0
    have HQ0 := Lib.hid q0
    have HQ1 := Lib.hid q1
    have h1I : (1 : Int) < (n : Int) := by omega
    have h0n : 0 < n := by omega
    clear hc hi hok ih
    have HS := Lib.hid hs
    clear hs
    go_enter Try.func18, Try.ntmps18
    go_upto_region 5 with fail
    go_cut [23] (fun v wx => FirstAns n xs s W1 v wx)
    case first =>
      by_cases h01 : xs[0]?.getD 0 ≤ xs[1]?.getD 0
      · have hd : decide (xs[0]?.getD 0 ≤ xs[1]?.getD 0) = true := decide_eq_true h01
        go_still_tail 9, (by kernel_rfl)
        change wpList _ _ _ _ _ W1.drew
        have P1 := Lib.hid (impl_withoutFirst (some ⟨b, off, none⟩) n cap xs s W1.drew HI.out.drew h2n hn6 HS.out)
        go_wp2_with fail
        refine P1.out.mono ?_
        rintro e w2 ⟨A2, d2, rfl, i2, b2⟩
        have B2 := Below.call (Below.refl W1.heap.size W1).drew (Nat.le_refl _) b2
        have PF := Lib.hid (IH1.out A2 (n - 1) d2 _ (s.extract 1 s.size) w2 rfl i2 (by rw [size_ext s (Nat.le_refl _)]; have := HS.out; omega) (lensOk_drop HOK.out 1))
        cases hb : stepsB (n - 1) (xs.drop 1) (s.extract 1 s.size) with
        | true =>
          rw [hb] at PF
          have HB := Lib.hid hb
          clear hb
          go_wp2_with fail
          refine PF.out.mono ?_
          rintro e w3 ⟨rfl, b3⟩
          go_wp2_with fail
          go_meet
          case rel => exact ⟨true, rfl, fun _ => steps_first h2n h01 HB.out, fun q => (by cases q), Below.call B2 B2.size b3⟩
        | false =>
          rw [hb] at PF
          have HB := Lib.hid hb
          clear hb
          go_wp2_with fail
          refine PF.out.mono ?_
          rintro e w3 ⟨rfl, b3⟩
          go_wp2_with fail
          go_meet
          case rel => exact ⟨false, rfl, fun q => (by cases q), fun _ q => (by rw [HB.out] at q; cases q.2), Below.call B2 B2.size b3⟩
      · have hd : decide (xs[0]?.getD 0 ≤ xs[1]?.getD 0) = false := decide_eq_false h01
        go_quiet (fail)
        go_wp2_with fail
        go_meet
        case rel => exact ⟨false, rfl, fun q => (by cases q), fun _ q => absurd q.1 (by unfold at0; omega), below_drewN (Below.refl _ _) _⟩
    case rest =>
      obtain ⟨b1, rfl, ht1, hf1, B1⟩ := hcut
      have HT1 := Lib.hid ht1
      have HF1 := Lib.hid hf1
      clear ht1 hf1 c0 c1 q0 q1
      cases b1 with
      | true =>
        have HE := Lib.hid (HT1.out rfl)
        clear HT1 HF1
        go_wp2_with fail
        go_ret
        exact ⟨ret_bool HE.out.symm, Below.call bb bb.size B1⟩
      | false =>
        have HI1 := Lib.hid (HI.out.below B1)
        have q0 := cell_below B1 HQ0.out
        have q1 := cell_below B1 HQ1.out
        obtain ⟨b', off', e', hc'⟩ := HI1.out.cells (by omega)
        cases e'
        have cn1 := hc' (n - 1) (by omega)
        have cn2 := hc' (n - 2) (by omega)
        clear hc'
        have h2I : (2 : Int) ≤ (n : Int) := by omega
        go_upto_region 7 with fail
        go_cut [39] (fun v wx => LastAns n xs s W1 v wx)
        case first =>
          have hw1 : IntKind.i64.wrap ((n : Int) - 1) = (n : Int) - 1 := IntWalk.i64_in _ (by omega)
          have hw2 : IntKind.i64.wrap ((n : Int) - 2) = (n : Int) - 2 := IntWalk.i64_in _ (by omega)
          have ht1 : ((n : Int) - 1).toNat = n - 1 := by omega
          have ht2 : ((n : Int) - 2).toNat = n - 2 := by omega
          have hb1 : (n : Int) - 1 < (n : Int) := by omega
          have hb2 : (n : Int) - 2 < (n : Int) := by omega
          have hb4 : (1 : Int) ≤ (n : Int) := by omega
          by_cases h01 : xs[n - 1]?.getD 0 ≤ xs[n - 2]?.getD 0
          · have hd : decide (xs[n - 1]?.getD 0 ≤ xs[n - 2]?.getD 0) = true := decide_eq_true h01
            go_still_tail 13, (by kernel_rfl)
            clear hw1 hw2
            change wpList _ _ _ _ _ wc.drew
            have P1 := Lib.hid (impl_withoutLast (some ⟨b, off, none⟩) n cap xs s wc.drew HI1.out.drew h2n hn6 HS.out)
            go_wp2_with fail
            refine P1.out.mono ?_
            rintro e w2 ⟨A2, d2, rfl, i2, b2⟩
            have B2 := Below.call B1.drew B1.size b2
            have PF := Lib.hid (IH1.out A2 (n - 1) d2 _ (s.extract 0 (n - 2)) w2 rfl i2 (by rw [size_ext s (by have := HS.out; omega)]; have := HS.out; omega) (lensOk_take HOK.out (n - 1)))
            cases hb : stepsB (n - 1) (xs.take (n - 1)) (s.extract 0 (n - 2)) with
            | true =>
              rw [hb] at PF
              have HB := Lib.hid hb
              clear hb
              go_wp2_with fail
              refine PF.out.mono ?_
              rintro e w3 ⟨rfl, b3⟩
              go_wp2_with fail
              go_meet
              case rel => exact ⟨true, rfl, fun _ => steps_last h2n h01 HB.out, fun q => (by cases q), Below.call B2 B2.size b3⟩
            | false =>
              rw [hb] at PF
              have HB := Lib.hid hb
              clear hb
              go_wp2_with fail
              refine PF.out.mono ?_
              rintro e w3 ⟨rfl, b3⟩
              go_wp2_with fail
              go_meet
              case rel => exact ⟨false, rfl, fun q => (by cases q), fun _ q => (by rw [HB.out] at q; cases q.2), Below.call B2 B2.size b3⟩
          · have hd : decide (xs[n - 1]?.getD 0 ≤ xs[n - 2]?.getD 0) = false := decide_eq_false h01
            go_quiet (fail)
            clear hw1 hw2
            go_wp2_with fail
            go_meet
            case rel => exact ⟨false, rfl, fun q => (by cases q), fun _ q => absurd q.1 (by unfold at0; omega), below_drewN B1 _⟩
        case rest =>
          obtain ⟨b2, rfl, ht2, hf2, B2⟩ := hcut
          have HT2 := Lib.hid ht2
          have HF2 := Lib.hid hf2
          clear ht2 hf2 cn1 cn2 q0 q1
          cases b2 with
          | true =>
            have HE := Lib.hid (HT2.out rfl)
            clear HT2 HF2
            go_wp2_with fail
            go_ret
            exact ⟨ret_bool HE.out.symm, Below.call bb bb.size B2⟩
          | false =>
            have HNO := Lib.hid (fun k (hk : noTo n xs s k) (hkn : n ≤ k + 1) => steps_none h2n (HF1.out rfl) (HF2.out rfl) hk hkn)
            clear HT1 HF1 HT2 HF2 HI1
            have hB2s := B2.size
            go_wp2_with fail
            go_loopg [5] (n - 1) (fun g k wr => ∃ K : Nat, 1 ≤ K ∧ K + 1 ≤ n ∧ g = n - K ∧ k = .int .i64 K ∧ noTo n xs s K ∧ Below W1.heap.size W1 wr)
            case atStart => exact ⟨1, Nat.le_refl _, by omega, rfl, rfl, noTo_one n xs s, B2⟩
            case round =>
              obtain ⟨K, hK1, hKn, hgK, rfl, hno, hB⟩ := hrel
              have HNOK := Lib.hid hno
              have HGK := Lib.hid hgK
              clear hno hgK
              by_cases hlt : K + 1 < n
              · have hltI : (K : Int) < (n : Int) - 1 := by omega
                have q0 := cell_below hB HQ0.out
                have q1 := cell_below hB HQ1.out
                have P3 := impl_crimpable (some ⟨b, off, none⟩) n cap K xs s wr (HI.out.below hB) hK1 hlt hn6 HS.out
                cases hcr : crimpB xs s K with
                | false =>
                  rw [hcr] at P3
                  have P3 := Lib.hid P3
                  have HCB := Lib.hid hcr
                  clear hcr
                  go_wp2_with fail
                  refine P3.out.mono ?_
                  rintro e w3 ⟨rfl, b3⟩
                  go_wp2_with fail
                  go_roundg (n - (K + 1))
                  case measure => have := HGK.out; omega
                  case rel => exact ⟨K + 1, by omega, by omega, rfl, by go_num, noTo_succ HNOK.out (by rw [HCB.out]; rfl), Below.call hB hB.size b3⟩
                | true =>
                  rw [hcr] at P3
                  have P3 := Lib.hid P3
                  have HCB := Lib.hid hcr
                  clear hcr
                  go_wp2_with fail
                  refine P3.out.mono ?_
                  rintro e w3 ⟨rfl, b3⟩
                  have B3 := Below.call hB hB.size b3
                  have p0 := cell_below b3 q0
                  have p1 := cell_below b3 q1
                  have P4 := Lib.hid (impl_crimped (some ⟨b, off, none⟩) n cap K xs s w3 (HI.out.below B3) hK1 hlt hn6 HS.out HOK.out)
                  go_wp2_with fail
                  refine P4.out.mono ?_
                  rintro e w4 ⟨A4, d4, rfl, i4, b4⟩
                  have B4 := Below.call B3 B3.size b4
                  have PF := Lib.hid (IH2.out (by omega) A4 (n - 2) d4 (crimpX xs K) (crimpS s K) w4 rfl i4 (by rw [crimpS_size hK1 (by have := HS.out; omega)]; have := HS.out; omega) (lensOk_crimp HOK.out hK1 (by rw [HL.out]; omega) HCB.out))
                  cases hb : stepsB (n - 2) (crimpX xs K) (crimpS s K) with
                  | true =>
                    rw [hb] at PF
                    have HE := Lib.hid (steps_crimp (n := n) hK1 hlt HCB.out hb)
                    clear hb
                    go_wp2_with fail
                    refine PF.out.mono ?_
                    rintro e w5 ⟨rfl, b5⟩
                    go_wp2_with fail
                    go_ret
                    exact ⟨ret_bool HE.out.symm, Below.call bb bb.size (Below.call B4 B4.size b5)⟩
                  | false =>
                    rw [hb] at PF
                    have HE := Lib.hid hb
                    clear hb
                    go_wp2_with fail
                    refine PF.out.mono ?_
                    rintro e w5 ⟨rfl, b5⟩
                    go_wp2_with fail
                    go_roundg (n - (K + 1))
                    case measure => have := HGK.out; omega
                    case rel => exact ⟨K + 1, by omega, by omega, rfl, by go_num, noTo_succ HNOK.out (by rw [HE.out, Bool.and_false]), Below.call B4 B4.size b5⟩
              · have HE := Lib.hid (HNO.out K HNOK.out (by omega))
                have hltI : ¬ (K : Int) < (n : Int) - 1 := by omega
                go_wp2_with fail
                go_ret
                exact ⟨ret_bool HE.out.symm, Below.call bb bb.size hB⟩

theorem impl_StripFolds (a : Option Addr) (n cap : Nat) (xs : List Int) (s : ByteArray) (w : World) (h : Ints w a n cap xs) (hs : s.size ≤ maxLen) :
    Calls Try.prog 8 #[.slice a n cap, .string s] w (RVal w (.bool (foldsB xs s))) := by
  have H1 := impl_StripValid a n cap xs s w h hs
  cases hv : stripB xs s with
  | false =>
    rw [hv] at H1
    have H1 := Lib.hid H1
    have HE : Hid (foldsB xs s = false) := by unfold Hid foldsB; rw [hv]; rfl
    clear hv
    go_enter Try.func8, Try.ntmps8
    go_wp2_with (go_at_call 12; refine H1.out.mono ?_; rintro e w' ⟨rfl, rfl⟩)
    go_ret
    exact ⟨ret_bool HE.out.symm, Below.refl _ _⟩
  | true =>
    rw [hv] at H1
    have H1 := Lib.hid H1
    obtain ⟨hv1, hv2, _⟩ := stripB_len hv
    have hl := lengthsB_len hv1
    rw [h.length] at hl hv2
    have HE : Hid (foldsB xs s = stepsB n xs s) := by unfold Hid foldsB; rw [hv, h.length]; rfl
    have H2 := Lib.hid (impl_foldable n hl.1 hl.2 a cap xs s w h hv2 (lengths_ok hv1))
    clear hv hv1
    go_enter Try.func8, Try.ntmps8
    go_wp2_with (first | (go_at_call 12; refine H1.out.mono ?_; rintro e w' ⟨rfl, rfl⟩) | (go_at_call 18; refine H2.out.mono ?_; rintro e w2 ⟨rfl, b2⟩))
    go_ret
    exact ⟨ret_bool HE.out.symm, b2⟩

end Go.Proofs.Ytahbflbhkalehaa
