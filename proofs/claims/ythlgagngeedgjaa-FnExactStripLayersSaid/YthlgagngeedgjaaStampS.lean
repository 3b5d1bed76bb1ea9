/-
  What the reference's StampPossible computes, by a walk.
-/
import Derived.Test.YthlgagngeedgjaaStamp
import Derived.Deep.DeepCutAuto
namespace Go.Proofs.Ythlgagngeedgjaa
open Go.RowKit

/-- The pairs that begin ahead of k cross none ahead of them (the reference's words). -/
def unToS (L : List Int) (k : Nat) : Prop := ∀ i m : Nat, i < k → m < i → i + 1 < L.length → i % 2 = m % 2 → crossB (L[i]?.getD 0) (L[i + 1]?.getD 0) (L[m]?.getD 0) (L[m + 1]?.getD 0) = false
def unInS (L : List Int) (k m : Nat) : Prop := ∀ j : Nat, j < m → j < k → k % 2 = j % 2 → crossB (L[k]?.getD 0) (L[k + 1]?.getD 0) (L[j]?.getD 0) (L[j + 1]?.getD 0) = false
theorem unToS_zero (L : List Int) : unToS L 0 := fun i _ h => absurd h (Nat.not_lt_zero i)
theorem unToS_succ {L : List Int} {k m : Nat} (h : unToS L k) (h1 : unInS L k m) (hm : ¬ m < k) : unToS L (k + 1) := fun i j hi hj hl hp => by
  by_cases e : i = k
  · subst e; exact h1 j (by omega) hj hp
  · exact h i j (by omega) hj hl hp
theorem unToS_all {xs : List Int} {k : Nat} (hp : permB xs = true) (h : unToS (levelsL xs) k) (hk : ¬ k + 1 < xs.length) : unB (levelsL xs) = true := (unB_iff _).2 fun i m h1 h2 h3 => by
  rw [levelsL_length] at h2
  rw [← cross_levels hp h1 h2 h3]
  exact h m i (by omega) h1 (by rw [levelsL_length]; exact h2) h3.symm
theorem unInS_start (L : List Int) (k : Nat) : unInS L k (k % 2) := fun j hj hk hp => by omega
theorem unInS_step {L : List Int} {k m : Nat} (h : unInS L k m) (hm : m % 2 = k % 2) (h1 : crossB (L[k]?.getD 0) (L[k + 1]?.getD 0) (L[m]?.getD 0) (L[m + 1]?.getD 0) = false) : unInS L k (m + 2) := fun j hj hk hp => by
  by_cases e : j = m
  · subst e; exact h1
  · exact h j (by omega) hk hp
theorem unS_false {xs : List Int} {k m : Nat} (hp : permB xs = true) (h1 : m < k) (h2 : k + 1 < xs.length) (h3 : k % 2 = m % 2) (h : crossB ((levelsL xs)[k]?.getD 0) ((levelsL xs)[k + 1]?.getD 0) ((levelsL xs)[m]?.getD 0) ((levelsL xs)[m + 1]?.getD 0) = true) : unB (levelsL xs) = false := by
  rw [cross_levels hp h1 h2 h3.symm] at h
  exact unB_false h1 (by rw [levelsL_length]; exact h2) h3.symm h
theorem betw_lt (l : Int) {x y : Int} (h : x < y) : betw l x y = (decide (x < l) && decide (l < y)) := by
  unfold betw
  rw [Int.min_eq_left (by omega), Int.max_eq_right (by omega)]
  simp
theorem betw_gt (l : Int) {x y : Int} (h : y < x) : betw l x y = (decide (y < l) && decide (l < x)) := by
  unfold betw
  rw [Int.min_eq_right (by omega), Int.max_eq_left (by omega)]
  simp

set_option maxRecDepth 100000 in
set_option maxHeartbeats 2000000 in
theorem spec_l3Possible (a : Option Addr) (n cap : Nat) (xs : List Int) (w : World) (h : Ints w a n cap xs) (hn : n ≤ 1048576) (hp : permB xs = true) :
    Calls Try.prog 72 #[.slice a n cap] w (RVal w (.bool (unB (levelsL xs)))) := by
  have H := Lib.hid h.length
  have hle := h.le_cap
  have H2 := spec_l2Levels a n n cap xs w h hn hn
  rw [← h.length, levS_perm hp, h.length] at H2
  have H2 := Lib.hid H2
  have HP := Lib.hid hp
  have hk := levelsL_length xs
  rw [h.length] at hk
  have HK := Lib.hid hk
  clear hp hk
  go_enter Try.func72, Try.ntmps72
  go_wp2_with (go_at_call 107; refine H2.out.mono ?_; rintro e w1 ⟨a1, n1, c1, rfl, o1, b1⟩; obtain rfl : n = n1 := HK.out.symm.trans o1.length)
  have hle1 := o1.ints.le_cap
  go_loopw [4] (fun i wr => ∃ k : Nat, k ≤ n ∧ i = .int .i64 k ∧ Hid (unToS (levelsL xs) k) ∧ Below w1.heap.size w1 wr) (fun i _ => n - (intOf i).toNat)
  case atStart => exact ⟨0, Nat.zero_le _, rfl, unToS_zero _, Below.refl _ _⟩
  case round =>
    obtain ⟨k, hk, rfl, HU, hB⟩ := hrel
    by_cases hlt : k + 1 < n
    · obtain ⟨wo, rfl⟩ : ∃ wo : World, wo = wr := ⟨_, rfl⟩
      have hi2 : (k : Int) + 1 < n := by omega
      go_wp2
      go_loopw [5, 6, 7, 8, 9] (fun i _ _ _ _ wr => ∃ m : Nat, m ≤ k + 2 ∧ m % 2 = k % 2 ∧ i = .int .i64 m ∧ Hid (unInS (levelsL xs) k m) ∧ Below w1.heap.size w1 wr) (fun i _ _ _ _ _ => k + 2 - (intOf i).toNat)
      case atStart => exact ⟨k % 2, by omega, by omega, by go_num, unInS_start _ k, hB⟩
      case round =>
        obtain ⟨m, hm2, hm3, rfl, HI, hB2⟩ := hrel
        by_cases hlt2 : m < k
        · obtain ⟨b, off, rfl, hc⟩ := (o1.ints.below hB2).cells (by omega)
          have d1 := hc k (by omega)
          have d2 := hc (k + 1) hlt
          have d3 := hc m (by omega)
          have d4 := hc (m + 1) (by omega)
          clear hc
          have hne : (levelsL xs)[k]?.getD 0 ≠ (levelsL xs)[k + 1]?.getD 0 := by
            rw [levelsL_get xs k (by rw [H.out]; omega), levelsL_get xs (k + 1) (by rw [H.out]; omega)]
            intro e
            have := lvl_inj HP.out (by rw [H.out]; omega) (by rw [H.out]; omega) e
            omega
          have HC : Hid (crossB ((levelsL xs)[k]?.getD 0) ((levelsL xs)[k + 1]?.getD 0) ((levelsL xs)[m]?.getD 0) ((levelsL xs)[m + 1]?.getD 0) = true → unB (levelsL xs) = false) := fun q => unS_false HP.out hlt2 (by rw [H.out]; exact hlt) hm3.symm q
          have HD : Hid (crossB ((levelsL xs)[k]?.getD 0) ((levelsL xs)[k + 1]?.getD 0) ((levelsL xs)[m]?.getD 0) ((levelsL xs)[m + 1]?.getD 0) = false → unInS (levelsL xs) k (m + 2)) := fun q => unInS_step HI.out hm3 q
          generalize (levelsL xs)[k]?.getD 0 = A at d1 hne HC HD
          generalize (levelsL xs)[k + 1]?.getD 0 = B at d2 hne HC HD
          generalize (levelsL xs)[m]?.getD 0 = C at d3 HC HD
          generalize (levelsL xs)[m + 1]?.getD 0 = D at d4 HC HD
          have hi1 : (k : Int) < n := by omega
          by_cases ho : A < B
          · have ho' : ¬ B < A := by omega
            clear hne
            go_wp2
            have z1 : 0 ≤ (k : Int) + 1 := by omega
            have t1 : ((k : Int) + 1).toNat = k + 1 := by omega
            have w9 : IntKind.i64.wrap ((k : Int) + 1) = (k : Int) + 1 := IntWalk.i64_in _ (by omega)
            go_quiet (fail)
            go_wp2
            go_quiet (fail)
            clear z1 t1 w9
            go_upto_region 10 with fail
            go_cut [8] from 23 to 80 (fun s8 wx => s8 = .bool (betw C A B) ∧ (wx.cell? ⟨b, off + m, none⟩ = some (.int .i64 C) ∧ wx.cell? ⟨b, off + (m + 1), none⟩ = some (.int .i64 D)) ∧ Below w1.heap.size w1 wx)
            case first =>
              by_cases p1 : A < C
              · go_wp2
                go_meet
                case rel => exact ⟨by simp [betw_lt _ ho, p1], ⟨by simpa using d3, by simpa using d4⟩, below_drewN hB2 _⟩
              · go_wp2
                go_meet
                case rel => exact ⟨congrArg Value.bool (by rw [betw_lt _ ho]; simp; omega), ⟨by simpa using d3, by simpa using d4⟩, below_drewN hB2 _⟩
            case rest =>
              obtain ⟨rfl, ⟨d3', d4'⟩, hB3⟩ := hcut
              clear d1 d2 d3 d4
              go_upto_region 11 with fail
              go_cut [9] from 23 to 80 (fun s9 wx => s9 = .bool (betw D A B) ∧ Below w1.heap.size w1 wx)
              case first =>
                by_cases p1 : A < D
                · go_wp2
                  go_meet
                  case rel => exact ⟨by simp [betw_lt _ ho, p1], hB3⟩
                · go_wp2
                  go_meet
                  case rel => exact ⟨congrArg Value.bool (by rw [betw_lt _ ho]; simp; omega), hB3⟩
              case rest =>
                obtain ⟨rfl, hB4⟩ := hcut
                clear d3' d4' hB3
                cases hb1 : betw C A B with
                | true =>
                  cases hb2 : betw D A B with
                  | true =>
                    have HI1 : Hid (unInS (levelsL xs) k (m + 2)) := HD.out (by unfold crossB; rw [hb1, hb2]; rfl)
                    go_wp2
                    go_roundw
                    case rel => exact ⟨m + 2, by omega, by omega, by go_num, HI1, hB4⟩
                    case measure => simp [intOf]; omega
                  | false =>
                    have HF : Hid (unB (levelsL xs) = false) := HC.out (by unfold crossB; rw [hb1, hb2]; rfl)
                    go_wp2
                    go_ret
                    exact ⟨ret_bool HF.out.symm, b1.trans (hB4.mono b1.size)⟩
                | false =>
                  cases hb2 : betw D A B with
                  | true =>
                    have HF : Hid (unB (levelsL xs) = false) := HC.out (by unfold crossB; rw [hb1, hb2]; rfl)
                    go_wp2
                    go_ret
                    exact ⟨ret_bool HF.out.symm, b1.trans (hB4.mono b1.size)⟩
                  | false =>
                    have HI1 : Hid (unInS (levelsL xs) k (m + 2)) := HD.out (by unfold crossB; rw [hb1, hb2]; rfl)
                    go_wp2
                    go_roundw
                    case rel => exact ⟨m + 2, by omega, by omega, by go_num, HI1, hB4⟩
                    case measure => simp [intOf]; omega
          · have ho' : B < A := by omega
            clear hne
            go_wp2
            have z1 : 0 ≤ (k : Int) + 1 := by omega
            have t1 : ((k : Int) + 1).toNat = k + 1 := by omega
            have w9 : IntKind.i64.wrap ((k : Int) + 1) = (k : Int) + 1 := IntWalk.i64_in _ (by omega)
            go_quiet (fail)
            go_wp2
            go_quiet (fail)
            clear z1 t1 w9
            go_upto_region 10 with fail
            go_cut [8] from 23 to 80 (fun s8 wx => s8 = .bool (betw C A B) ∧ (wx.cell? ⟨b, off + m, none⟩ = some (.int .i64 C) ∧ wx.cell? ⟨b, off + (m + 1), none⟩ = some (.int .i64 D)) ∧ Below w1.heap.size w1 wx)
            case first =>
              by_cases p1 : B < C
              · go_wp2
                go_meet
                case rel => exact ⟨by simp [betw_gt _ ho', p1], ⟨by simpa using d3, by simpa using d4⟩, below_drewN hB2 _⟩
              · go_wp2
                go_meet
                case rel => exact ⟨congrArg Value.bool (by rw [betw_gt _ ho']; simp; omega), ⟨by simpa using d3, by simpa using d4⟩, below_drewN hB2 _⟩
            case rest =>
              obtain ⟨rfl, ⟨d3', d4'⟩, hB3⟩ := hcut
              clear d1 d2 d3 d4
              go_upto_region 11 with fail
              go_cut [9] from 23 to 80 (fun s9 wx => s9 = .bool (betw D A B) ∧ Below w1.heap.size w1 wx)
              case first =>
                by_cases p1 : B < D
                · go_wp2
                  go_meet
                  case rel => exact ⟨by simp [betw_gt _ ho', p1], hB3⟩
                · go_wp2
                  go_meet
                  case rel => exact ⟨congrArg Value.bool (by rw [betw_gt _ ho']; simp; omega), hB3⟩
              case rest =>
                obtain ⟨rfl, hB4⟩ := hcut
                clear d3' d4' hB3
                cases hb1 : betw C A B with
                | true =>
                  cases hb2 : betw D A B with
                  | true =>
                    have HI1 : Hid (unInS (levelsL xs) k (m + 2)) := HD.out (by unfold crossB; rw [hb1, hb2]; rfl)
                    go_wp2
                    go_roundw
                    case rel => exact ⟨m + 2, by omega, by omega, by go_num, HI1, hB4⟩
                    case measure => simp [intOf]; omega
                  | false =>
                    have HF : Hid (unB (levelsL xs) = false) := HC.out (by unfold crossB; rw [hb1, hb2]; rfl)
                    go_wp2
                    go_ret
                    exact ⟨ret_bool HF.out.symm, b1.trans (hB4.mono b1.size)⟩
                | false =>
                  cases hb2 : betw D A B with
                  | true =>
                    have HF : Hid (unB (levelsL xs) = false) := HC.out (by unfold crossB; rw [hb1, hb2]; rfl)
                    go_wp2
                    go_ret
                    exact ⟨ret_bool HF.out.symm, b1.trans (hB4.mono b1.size)⟩
                  | false =>
                    have HI1 : Hid (unInS (levelsL xs) k (m + 2)) := HD.out (by unfold crossB; rw [hb1, hb2]; rfl)
                    go_wp2
                    go_roundw
                    case rel => exact ⟨m + 2, by omega, by omega, by go_num, HI1, hB4⟩
                    case measure => simp [intOf]; omega
        · have HU1 : Hid (unToS (levelsL xs) (k + 1)) := unToS_succ HU.out HI.out hlt2
          go_wp2
          go_roundw
          case rel => exact ⟨k + 1, by omega, by go_num, HU1, hB2⟩
          case measure => simp [intOf]; omega
    · have HT : Hid (unB (levelsL xs) = true) := unToS_all HP.out HU.out (by rw [H.out]; exact hlt)
      go_wp2
      go_ret
      exact ⟨ret_bool HT.out.symm, b1.trans (hB.mono b1.size)⟩

theorem spec_StampPossible (a : Option Addr) (n cap : Nat) (xs : List Int) (w : World) (h : Ints w a n cap xs) (hn : n ≤ 1048576) :
    Calls Try.prog 25 #[.slice a n cap] w (RVal w (.bool (possB xs))) := by
  have hl := h.length
  have H1 := spec_l3Stack a n cap xs w h hn
  have HI := Lib.hid h
  by_cases hv : (1 ≤ n ∧ n ≤ 7) ∧ permB xs = true
  · rw [decide_eq_true hv.1, hv.2] at H1
    have H1 := Lib.hid H1
    have HV := Lib.hid hv.2
    have HP := Lib.hid (possB_yes (xs := xs) (by rw [hl]; exact hv.1) hv.2)
    clear hv hl h
    go_enter Try.func25, Try.ntmps25
    go_wp2_with (first | (go_at_call 71; refine H1.out.mono ?_; rintro e w1 ⟨rfl, b1⟩) | (go_at_call 72; refine (spec_l3Possible a n cap xs w1 (HI.out.below b1) hn HV.out).mono ?_; rintro e w2 ⟨rfl, b2⟩))
    go_ret
    exact ⟨ret_bool HP.out.symm, Below.call b1 b1.size b2⟩
  · have hf : (decide (1 ≤ n ∧ n ≤ 7) && permB xs) = false := by
      rw [Bool.and_eq_false_iff]
      by_cases hr : 1 ≤ n ∧ n ≤ 7
      · right
        cases hp : permB xs with
        | false => rfl
        | true => exact absurd ⟨hr, hp⟩ hv
      · left; exact decide_eq_false hr
    have HP : Hid (possB xs = false) := by
      unfold Hid possB
      rw [hl, hf]
      rfl
    rw [hf] at H1
    have H1 := Lib.hid H1
    clear hv hl h hf
    go_enter Try.func25, Try.ntmps25
    go_wp2_with (first | (go_at_call 71; refine H1.out.mono ?_; rintro e w1 ⟨rfl, b1⟩))
    go_ret
    exact ⟨ret_bool HP.out.symm, b1⟩

end Go.Proofs.Ythlgagngeedgjaa
