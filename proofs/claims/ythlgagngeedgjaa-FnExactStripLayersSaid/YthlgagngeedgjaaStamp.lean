/-
  What StampPossible computes, in the reference and in the program, by a walk through each.
-/
import Derived.Test.YthlgagngeedgjaaLevels
import Derived.IntWalk
namespace Go.Proofs.Ythlgagngeedgjaa
open Go.RowKit

theorem quietA {P : Program} {f : FuncId} {args : Array Value} {w : World} {n : Nat} {v : Value} (h : ∀ W : World, Calls P f args W fun e w' => e = .returned v ∧ W = w') :
    Calls P f args (w.drewN n) fun e w'' => e = .returned v ∧ ∃ m, w'' = w.drewN m := (h _).mono fun _ _ ⟨he, hw⟩ => ⟨he, n, hw.symm⟩
theorem quietB {P : Program} {f : FuncId} {args : Array Value} {w : World} {a n : Nat} {v : Value} (h : ∀ W : World, Calls P f args W fun e w' => e = .returned v ∧ W = w') :
    Calls P f args (w.drewN (a + n)) fun e w'' => e = .returned v ∧ ∃ m, w'' = w.drewN (a + m) := (h _).mono fun _ _ ⟨he, hw⟩ => ⟨he, n, hw.symm⟩

/-- The pairs that begin ahead of k cross no later one. -/
def unTo (L : List Int) (k : Nat) : Prop := ∀ i m : Nat, i < k → i < m → m + 1 < L.length → i % 2 = m % 2 → crossB (L[i]?.getD 0) (L[i + 1]?.getD 0) (L[m]?.getD 0) (L[m + 1]?.getD 0) = false
/-- The pair k crosses none of its side that begins ahead of m. -/
def unIn (L : List Int) (k m : Nat) : Prop := ∀ j : Nat, j < m → k < j → j + 1 < L.length → k % 2 = j % 2 → crossB (L[k]?.getD 0) (L[k + 1]?.getD 0) (L[j]?.getD 0) (L[j + 1]?.getD 0) = false
theorem unTo_zero (L : List Int) : unTo L 0 := fun i _ h => absurd h (Nat.not_lt_zero i)
theorem unTo_succ {L : List Int} {k m : Nat} (h : unTo L k) (h1 : unIn L k m) (hm : ¬ m + 1 < L.length) : unTo L (k + 1) := fun i j hi hj hl hp => by
  by_cases e : i = k
  · subst e; exact h1 j (by omega) hj hl hp
  · exact h i j (by omega) hj hl hp
theorem unTo_all {L : List Int} {k : Nat} (h : unTo L k) (hk : ¬ k + 1 < L.length) : unB L = true := (unB_iff L).2 fun i m h1 h2 h3 => h i m (by omega) h1 h2 h3
theorem unIn_start (L : List Int) (k : Nat) : unIn L k (k + 2) := fun j hj hk hl hp => by omega
theorem unIn_step {L : List Int} {k m : Nat} (h : unIn L k m) (hm : m % 2 = k % 2) (h1 : crossB (L[k]?.getD 0) (L[k + 1]?.getD 0) (L[m]?.getD 0) (L[m + 1]?.getD 0) = false) : unIn L k (m + 2) := fun j hj hk hl hp => by
  by_cases e : j = m
  · subst e; exact h1
  · exact h j (by omega) hk hl hp

set_option maxHeartbeats 2000000 in
theorem impl_uncrossed (a : Option Addr) (n cap : Nat) (L : List Int) (w : World) (h : Ints w a n cap L) (hn : n ≤ 1048576) :
    Calls Try.prog 70 #[.slice a n cap] w (RVal w (.bool (unB L))) := by
  have H := Lib.hid h.length
  have hle := h.le_cap
  go_enter Try.func70, Try.ntmps70
  go_wp2
  go_loopw [3] (fun i wr => ∃ k : Nat, k ≤ n ∧ i = .int .i64 k ∧ Hid (unTo L k) ∧ Below w.heap.size w wr) (fun i _ => n - (intOf i).toNat)
  case atStart => exact ⟨0, Nat.zero_le _, rfl, unTo_zero L, Below.refl _ _⟩
  case round =>
    obtain ⟨k, hk, rfl, HU, hB⟩ := hrel
    by_cases hlt : k + 1 < n
    · obtain ⟨wo, rfl⟩ : ∃ wo : World, wo = wr := ⟨_, rfl⟩
      go_wp2
      go_loopw [4] (fun i wr => ∃ m : Nat, k + 2 ≤ m ∧ m ≤ n + 2 ∧ m % 2 = k % 2 ∧ i = .int .i64 m ∧ Hid (unIn L k m) ∧ Below w.heap.size w wr) (fun i _ => n + 2 - (intOf i).toNat)
      case atStart => exact ⟨k + 2, Nat.le_refl _, by omega, by omega, by go_num, unIn_start L k, hB⟩
      case round =>
        obtain ⟨m, hm1, hm2, hm3, rfl, HI, hB2⟩ := hrel
        by_cases hlt2 : m + 1 < n
        · obtain ⟨b, off, rfl, hc⟩ := (h.below hB2).cells (by omega)
          have c1 := hc k (by omega)
          have c2 := hc (k + 1) hlt
          have c3 := hc m (by omega)
          have c4 := hc (m + 1) hlt2
          clear hc
          go_wp2
          have hi1 : (k : Int) < n := by omega
          have hi2 : (k : Int) + 1 < n := by omega
          have hi3 : (m : Int) < n := by omega
          have hi4 : (m : Int) + 1 < n := by omega
          have z1 : 0 ≤ (k : Int) + 1 := by omega
          have z2 : 0 ≤ (m : Int) + 1 := by omega
          have t1 : ((k : Int) + 1).toNat = k + 1 := by omega
          have t2 : ((m : Int) + 1).toNat = m + 1 := by omega
          have w1 : IntKind.i64.wrap ((k : Int) + 1) = (k : Int) + 1 := IntWalk.i64_in _ (by omega)
          have w2 : IntKind.i64.wrap ((m : Int) + 1) = (m : Int) + 1 := IntWalk.i64_in _ (by omega)
          go_quiet ((go_at_call 106; exact quietA (fun W => impl_isBetween _ _ _ W)))
          go_wp2
          go_quiet ((go_at_call 106; exact quietB (fun W => impl_isBetween _ _ _ W)))
          clear w1 w2 t1 t2 z1 z2 hi1 hi2 hi3 hi4
          cases hb1 : betw (L[m]?.getD 0) (L[k]?.getD 0) (L[k + 1]?.getD 0) with
          | true =>
            cases hb2 : betw (L[m + 1]?.getD 0) (L[k]?.getD 0) (L[k + 1]?.getD 0) with
            | true =>
              have HI1 : Hid (unIn L k (m + 2)) := unIn_step HI.out hm3 (by unfold crossB; rw [hb1, hb2]; rfl)
              go_wp2
              go_roundw
              case rel => exact ⟨m + 2, by omega, by omega, by omega, by go_num, HI1, below_drewN hB2 _⟩
              case measure => simp [intOf]; omega
            | false =>
              have HF : Hid (unB L = false) := unB_false (by omega) (by rw [H.out]; exact hlt2) hm3.symm (by unfold crossB; rw [hb1, hb2]; rfl)
              go_wp2
              go_ret
              exact ⟨ret_bool HF.out.symm, below_drewN hB2 _⟩
          | false =>
            cases hb2 : betw (L[m + 1]?.getD 0) (L[k]?.getD 0) (L[k + 1]?.getD 0) with
            | true =>
              have HF : Hid (unB L = false) := unB_false (by omega) (by rw [H.out]; exact hlt2) hm3.symm (by unfold crossB; rw [hb1, hb2]; rfl)
              go_wp2
              go_ret
              exact ⟨ret_bool HF.out.symm, below_drewN hB2 _⟩
            | false =>
              have HI1 : Hid (unIn L k (m + 2)) := unIn_step HI.out hm3 (by unfold crossB; rw [hb1, hb2]; rfl)
              go_wp2
              go_roundw
              case rel => exact ⟨m + 2, by omega, by omega, by omega, by go_num, HI1, below_drewN hB2 _⟩
              case measure => simp [intOf]; omega
        · have HU1 : Hid (unTo L (k + 1)) := unTo_succ HU.out HI.out (by rw [H.out]; exact hlt2)
          go_wp2
          go_roundw
          case rel => exact ⟨k + 1, by omega, by go_num, HU1, hB2⟩
          case measure => simp [intOf]; omega
    · have HT : Hid (unB L = true) := unTo_all HU.out (by rw [H.out]; exact hlt)
      go_wp2
      go_ret
      exact ⟨ret_bool HT.out.symm, hB⟩

theorem impl_stampsInRange (x : Int) (w : World) :
    Calls Try.prog 60 #[.int .i64 x] w fun e w' => e = .returned (.bool (decide (1 ≤ x ∧ x ≤ 7))) ∧ w = w' := by
  by_cases h1 : 1 ≤ x
  · go_enter Try.func60, Try.ntmps60
    go_wp2
    go_ret
    exact ⟨ret_bool (by simp [h1]), rfl⟩
  · go_enter Try.func60, Try.ntmps60
    go_wp2
    go_ret
    exact ⟨ret_bool (by simp; omega), rfl⟩

theorem possB_no {xs : List Int} (h : ¬ (1 ≤ xs.length ∧ xs.length ≤ 7)) : possB xs = false := by unfold possB; rw [decide_eq_false h]; rfl
theorem possB_yes {xs : List Int} (h : 1 ≤ xs.length ∧ xs.length ≤ 7) (hp : permB xs = true) : possB xs = unB (levelsL xs) := by unfold possB; rw [decide_eq_true h, hp]; rfl
theorem possB_np {xs : List Int} (hp : permB xs = false) : possB xs = false := by unfold possB; rw [hp]; simp

set_option maxHeartbeats 1000000 in
theorem impl_StampPossible (a : Option Addr) (n cap : Nat) (xs : List Int) (w : World) (h : Ints w a n cap xs) :
    Calls Try.prog 24 #[.slice a n cap] w (RVal w (.bool (possB xs))) := by
  have hl := h.length
  have hm := h.cap_max
  have hle := h.le_cap
  have H1 := impl_stampsInRange (n : Int) w
  by_cases hr : 1 ≤ n ∧ n ≤ 7
  · rw [decide_eq_true (by omega)] at H1
    have H1 := Lib.hid H1
    have H2 := impl_levelsOf a n cap xs w h (by omega)
    cases hp : permB xs with
    | true =>
      rw [hp, levOr_yes hp] at H2
      have H2 := Lib.hid H2
      have HP := Lib.hid (possB_yes (xs := xs) (by rw [hl]; exact hr) hp)
      have hk := levelsL_length xs
      rw [hl] at hk
      have HK := Lib.hid hk
      have hr7 : n ≤ 7 := hr.2
      clear hp hl hr hk
      go_enter Try.func24, Try.ntmps24
      go_wp2_with (first | (go_at_call 60; refine H1.out.mono ?_; rintro e w' ⟨rfl, rfl⟩) | (go_at_call 69; refine H2.out.mono ?_; rintro e w1 ⟨a1, n1, c1, rfl, o1, b1⟩) | (go_at_call 70; refine (impl_uncrossed a1 n1 c1 (levelsL xs) w1 o1.ints (by have := o1.length; rw [HK.out] at this; omega)).mono ?_; rintro e w2 ⟨rfl, b2⟩))
      go_ret
      exact ⟨ret_bool HP.out.symm, Below.call b1 b1.size b2⟩
    | false =>
      rw [hp, levOr_no hp] at H2
      have H2 := Lib.hid H2
      have HP := Lib.hid (possB_np (xs := xs) hp)
      clear hp hl hr
      go_enter Try.func24, Try.ntmps24
      go_wp2_with (first | (go_at_call 60; refine H1.out.mono ?_; rintro e w' ⟨rfl, rfl⟩) | (go_at_call 69; refine H2.out.mono ?_; rintro e w1 ⟨a1, n1, c1, rfl, o1, b1⟩))
      go_ret
      exact ⟨ret_bool HP.out.symm, b1⟩
  · rw [decide_eq_false (by omega)] at H1
    have H1 := Lib.hid H1
    have HP := Lib.hid (possB_no (xs := xs) (by rw [hl]; exact hr))
    clear hl hr
    go_enter Try.func24, Try.ntmps24
    go_wp2_with (first | (go_at_call 60; refine H1.out.mono ?_; rintro e w' ⟨rfl, rfl⟩))
    go_ret
    exact ⟨ret_bool HP.out.symm, Below.refl _ _⟩

theorem spec_l3Stack (a : Option Addr) (n cap : Nat) (xs : List Int) (w : World) (h : Ints w a n cap xs) (hn : n ≤ 1048576) :
    Calls Try.prog 71 #[.slice a n cap] w (RVal w (.bool (decide (1 ≤ n ∧ n ≤ 7) && permB xs))) := by
  have hl := h.length
  have hm := h.cap_max
  have hle := h.le_cap
  have H1 := spec_l6In (n : Int) 1 7 w
  by_cases hr : 1 ≤ n ∧ n ≤ 7
  · rw [decide_eq_true (by omega)] at H1
    rw [decide_eq_true hr]
    have H1 := Lib.hid H1
    have H2 := spec_l2Levels a n n cap xs w h hn hn
    cases hp : permB xs with
    | true =>
      have e1 := levS_perm hp
      rw [hl] at e1
      rw [e1] at H2
      have H2 := Lib.hid H2
      have hk := levelsL_length xs
      rw [hl] at hk
      have HK := Lib.hid hk
      clear hp hl hr hk e1
      go_enter Try.func71, Try.ntmps71
      go_wp2_with (first | (go_at_call 55; refine H1.out.mono ?_; rintro e w' ⟨rfl, rfl⟩) | (go_at_call 107; refine H2.out.mono ?_; rintro e w1 ⟨a1, n1, c1, rfl, o1, b1⟩; obtain rfl : n = n1 := HK.out.symm.trans o1.length))
      go_ret
      exact ⟨rfl, b1⟩
    | false =>
      have e1 : levS n xs = [] := levS_not (by rw [← hl]; exact hp)
      rw [e1] at H2
      have H2 := Lib.hid H2
      obtain ⟨hr1, hr2⟩ := hr
      have h0 : ((0 : Int) == n) = false := by rw [beq_eq_false_iff_ne]; omega
      clear hp hl e1
      go_enter Try.func71, Try.ntmps71
      go_wp2_with (first | (go_at_call 55; refine H1.out.mono ?_; rintro e w' ⟨rfl, rfl⟩) | (go_at_call 107; refine H2.out.mono ?_; rintro e w1 ⟨a1, n1, c1, rfl, o1, b1⟩; obtain rfl : 0 = n1 := o1.length))
      go_ret
      exact ⟨rfl, b1⟩
  · rw [decide_eq_false (by omega)] at H1
    rw [decide_eq_false hr]
    have H1 := Lib.hid H1
    clear hl hr
    go_enter Try.func71, Try.ntmps71
    go_wp2_with (first | (go_at_call 55; refine H1.out.mono ?_; rintro e w' ⟨rfl, rfl⟩))
    go_ret
    exact ⟨rfl, Below.refl _ _⟩

end Go.Proofs.Ythlgagngeedgjaa
