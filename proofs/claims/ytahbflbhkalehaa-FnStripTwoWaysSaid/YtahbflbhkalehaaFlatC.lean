/-
  What the reference's l2Covers computes, by a walk.
-/
import Derived.Test.YtahbflbhkalehaaMemF
import Derived.Test.YtahbflbhkalehaaStampS
namespace Go.Proofs.Ytahbflbhkalehaa
open Go.RowKit

theorem betw_spec {pl P Q : Int} : betw pl P Q = (decide (min P Q < pl) && decide (pl < max P Q)) := by unfold betw; rw [Bool.decide_and]

set_option maxHeartbeats 2000000 in
theorem spec_l2Covers (a : Option Addr) (n cap s : Nat) (ps : List Int) (pl : Int) (w : World) (h : Ints w a (n + 1) cap ps) (hn : n ≤ 6) (hs : s < n) :
    Calls Try.prog 49 #[.slice a (n + 1 : Nat) cap, .int .i64 s, .int .i64 pl] w (RVal w (.bool (betw pl (at0 ps s) (at0 ps (s + 1))))) := by
  have hle := h.le_cap
  have hmx := h.cap_max
  obtain ⟨b, off, rfl, hc⟩ := h.cells (by omega)
  have c1 : w.cell? ⟨b, off + s, none⟩ = some (.int .i64 (at0 ps s)) := hc s (by omega)
  have c2 : w.cell? ⟨b, off + (s + 1), none⟩ = some (.int .i64 (at0 ps (s + 1))) := hc (s + 1) (by omega)
  clear hc h
  generalize at0 ps s = P at c1 ⊢
  generalize at0 ps (s + 1) = Q at c2 ⊢
  have hx1 : (s : Int) < (n : Int) + 1 := by omega
  have hx2 : (s : Int) + 1 < (n : Int) + 1 := by omega
  have hx3 : (0 : Int) ≤ (s : Int) + 1 := by omega
  have ht1 : ((s : Int) + 1).toNat = s + 1 := by omega
  have hw1 : IntKind.i64.wrap ((s : Int) + 1) = (s : Int) + 1 := IntWalk.i64_in _ (by omega)
  by_cases ho : P < Q
  · have ho' : ¬ Q < P := by omega
    by_cases h1 : P < pl
    · have hd1 : decide (P < pl) = true := decide_eq_true h1
      by_cases h2 : pl < Q
      · have hd2 : decide (pl < Q) = true := decide_eq_true h2
        have HE : Hid (betw pl P Q = true) := by unfold Hid betw; rw [decide_eq_true]; omega
        go_enter Try.func49, Try.ntmps49
        go_wp2
        go_quiet (fail)
        go_wp2
        go_ret
        exact ⟨ret_bool (by rw [HE.out]), below_drewN (Below.refl _ _) _⟩
      · have hd2 : decide (pl < Q) = false := decide_eq_false h2
        have HE : Hid (betw pl P Q = false) := by unfold Hid betw; rw [decide_eq_false]; omega
        go_enter Try.func49, Try.ntmps49
        go_wp2
        go_quiet (fail)
        go_wp2
        go_ret
        exact ⟨ret_bool (by rw [HE.out]), below_drewN (Below.refl _ _) _⟩
    · have hd1 : decide (P < pl) = false := decide_eq_false h1
      have HE : Hid (betw pl P Q = false) := by unfold Hid betw; rw [decide_eq_false]; omega
      go_enter Try.func49, Try.ntmps49
      go_wp2
      go_quiet (fail)
      go_wp2
      go_ret
      exact ⟨ret_bool (by rw [HE.out]), below_drewN (Below.refl _ _) _⟩
  · by_cases ho2 : Q < P
    · skip
      by_cases h1 : Q < pl
      · have hd1 : decide (Q < pl) = true := decide_eq_true h1
        by_cases h2 : pl < P
        · have hd2 : decide (pl < P) = true := decide_eq_true h2
          have HE : Hid (betw pl P Q = true) := by unfold Hid betw; rw [decide_eq_true]; omega
          go_enter Try.func49, Try.ntmps49
          go_wp2
          go_quiet (fail)
          go_wp2
          go_ret
          exact ⟨ret_bool (by rw [HE.out]), below_drewN (Below.refl _ _) _⟩
        · have hd2 : decide (pl < P) = false := decide_eq_false h2
          have HE : Hid (betw pl P Q = false) := by unfold Hid betw; rw [decide_eq_false]; omega
          go_enter Try.func49, Try.ntmps49
          go_wp2
          go_quiet (fail)
          go_wp2
          go_ret
          exact ⟨ret_bool (by rw [HE.out]), below_drewN (Below.refl _ _) _⟩
      · have hd1 : decide (Q < pl) = false := decide_eq_false h1
        have HE : Hid (betw pl P Q = false) := by unfold Hid betw; rw [decide_eq_false]; omega
        go_enter Try.func49, Try.ntmps49
        go_wp2
        go_quiet (fail)
        go_wp2
        go_ret
        exact ⟨ret_bool (by rw [HE.out]), below_drewN (Below.refl _ _) _⟩
    · obtain rfl : P = Q := by omega
      clear ho ho2
      have hpp : ¬ P < P := by omega
      by_cases h1 : P < pl
      · have hd1 : decide (P < pl) = true := decide_eq_true h1
        by_cases h2 : pl < P
        · have hd2 : decide (pl < P) = true := decide_eq_true h2
          have HE : Hid (betw pl P P = true) := by unfold Hid betw; rw [decide_eq_true]; omega
          go_enter Try.func49, Try.ntmps49
          go_wp2
          go_quiet (fail)
          go_wp2
          go_ret
          exact ⟨ret_bool (by rw [HE.out]), below_drewN (Below.refl _ _) _⟩
        · have hd2 : decide (pl < P) = false := decide_eq_false h2
          have HE : Hid (betw pl P P = false) := by unfold Hid betw; rw [decide_eq_false]; omega
          go_enter Try.func49, Try.ntmps49
          go_wp2
          go_quiet (fail)
          go_wp2
          go_ret
          exact ⟨ret_bool (by rw [HE.out]), below_drewN (Below.refl _ _) _⟩
      · have hd1 : decide (P < pl) = false := decide_eq_false h1
        have HE : Hid (betw pl P P = false) := by unfold Hid betw; rw [decide_eq_false]; omega
        go_enter Try.func49, Try.ntmps49
        go_wp2
        go_quiet (fail)
        go_wp2
        go_ret
        exact ⟨ret_bool (by rw [HE.out]), below_drewN (Below.refl _ _) _⟩

end Go.Proofs.Ytahbflbhkalehaa
