/-
  What the program's foldable computes, by walks.
-/
import Derived.Test.YtahbflbhkalehaaSteps
import Derived.RegionTactic
import Derived.BigQuiet
namespace Go.Proofs.Ytahbflbhkalehaa
open Go.RowKit

/-- What a call returns that hands back a strip. -/
def RStrip (w : World) (n : Nat) (xs : List Int) (s : ByteArray) (e : Ending) (w' : World) : Prop := ∃ A c, e = .returned (.agg #[.slice A n c, .string s]) ∧ Ints w' A n c xs ∧ Below w.heap.size w w'

set_option maxHeartbeats 1000000 in
theorem impl_withoutFirst (a : Option Addr) (n cap : Nat) (xs : List Int) (s : ByteArray) (w : World) (h : Ints w a n cap xs) (hn : 2 ≤ n) (hn6 : n ≤ 6) (hs : s.size + 1 = n) :
    Calls Try.prog 33 #[.agg #[.slice a n cap, .string s]] w (RStrip w (n - 1) (xs.drop 1) (s.extract 1 s.size)) := by
  have hle := h.le_cap
  have hmx := h.cap_max
  have HC := h.cut' (k := 1) (by omega) (by omega)
  obtain ⟨b, off, rfl, _⟩ := h.cells (by omega)
  rw [Option.map_some, add_addr] at HC
  have HC := Lib.hid HC
  have hc1 : ¬ cap = 1 := by omega
  have h1 : (1 : Int) ≤ (n : Int) := by omega
  have h2 : (1 : Int) ≤ (s.size : Int) := by omega
  clear h hs
  go_enter Try.func33, Try.ntmps33
  go_wp2
  go_region
  all_goals
    go_wp2
    have bb : Below w.heap.size w ((w.alloc (.cells #[.slice (some ⟨b, off, none⟩) n cap, .string s] 42)).alloc (.cells #[.slice (some ⟨b, off + 1, none⟩) (n - 1) (cap - 1), .string (s.extract 1 s.size)] 42)).drew := (((Below.refl _ _).alloc (Nat.le_refl _) _).alloc (by simp) _).drew
    exact bodyPost_ret (v := .agg #[.slice (some ⟨b, off + 1, none⟩) (n - 1) (cap - 1), .string (s.extract 1 s.size)]) (by simp [results, Try.results33, go_sem]) rfl ⟨_, _, rfl, HC.out.below bb, bb⟩

set_option maxHeartbeats 1000000 in
theorem impl_withoutLast (a : Option Addr) (n cap : Nat) (xs : List Int) (s : ByteArray) (w : World) (h : Ints w a n cap xs) (hn : 2 ≤ n) (hn6 : n ≤ 6) (hs : s.size + 1 = n) :
    Calls Try.prog 34 #[.agg #[.slice a n cap, .string s]] w (RStrip w (n - 1) (xs.take (n - 1)) (s.extract 0 (n - 2))) := by
  have hle := h.le_cap
  have hmx := h.cap_max
  have HC := h.head (k := n - 1) (by omega)
  obtain ⟨b, off, rfl, _⟩ := h.cells (by omega)
  have HC := Lib.hid HC
  have h1 : (1 : Int) ≤ (n : Int) := by omega
  have h2 : (2 : Int) ≤ (n : Int) := by omega
  have h3 : (n : Int) - 1 ≤ (cap : Int) := by omega
  have h4 : (n : Int) - 2 ≤ (s.size : Int) := by omega
  have h5 : n - 1 ≤ cap := by omega
  have h6 : n - 2 ≤ s.size := by omega
  clear h hs
  go_enter Try.func34, Try.ntmps34
  go_wp2
  go_region
  all_goals
    go_wp2
    have bb : Below w.heap.size w ((w.alloc (.cells #[.slice (some ⟨b, off, none⟩) n cap, .string s] 42)).alloc (.cells #[.slice (some ⟨b, off, none⟩) (n - 1) cap, .string (s.extract 0 (n - 2))] 42)).drew := (((Below.refl _ _).alloc (Nat.le_refl _) _).alloc (by simp) _).drew
    exact bodyPost_ret (v := .agg #[.slice (some ⟨b, off, none⟩) (n - 1) cap, .string (s.extract 0 (n - 2))]) (by simp [results, Try.results34, go_sem]) rfl ⟨_, _, rfl, HC.out.below bb, bb⟩

set_option maxHeartbeats 2000000 in
theorem impl_crimpable (a : Option Addr) (n cap K : Nat) (xs : List Int) (s : ByteArray) (w : World) (h : Ints w a n cap xs) (hK1 : 1 ≤ K) (hK : K + 1 < n) (hn6 : n ≤ 6) (hs : s.size + 1 = n) :
    Calls Try.prog 35 #[.agg #[.slice a n cap, .string s], .int .i64 K] w (RVal w (.bool (crimpB xs s K))) := by
  have hle := h.le_cap
  have hmx := h.cap_max
  have bb : Below w.heap.size w (w.alloc (.cells #[.slice a n cap, .string s] 42)) := (Below.refl _ _).alloc (Nat.le_refl _) _
  have hb := h.below bb
  obtain ⟨b, off, rfl, hc'⟩ := hb.cells (by omega)
  have k0 := hc' (K - 1) (by omega)
  have k1 := hc' K (by omega)
  have k2 := hc' (K + 1) (by omega)
  clear hc' h hb
  have hsK : K < s.size := by omega
  have hsK1 : K - 1 < s.size := by omega
  have hi1 : (1 : Int) ≤ (K : Int) := by omega
  have hi0 : (0 : Int) ≤ (K : Int) + 1 := by omega
  have hi2 : (K : Int) - 1 < (n : Int) := by omega
  have hi3 : (K : Int) < (n : Int) := by omega
  have hi4 : (K : Int) + 1 < (n : Int) := by omega
  have hj2 : (K : Int) - 1 < (s.size : Int) := by omega
  have hj3 : (K : Int) < (s.size : Int) := by omega
  have ht1 : ((K : Int) - 1).toNat = K - 1 := by omega
  have ht2 : ((K : Int) + 1).toNat = K + 1 := by omega
  have hw1 : IntKind.i64.wrap ((K : Int) - 1) = (K : Int) - 1 := IntWalk.i64_in _ (by omega)
  have hw2 : IntKind.i64.wrap ((K : Int) + 1) = (K : Int) + 1 := IntWalk.i64_in _ (by omega)
  clear hs
  by_cases hq : s[K - 1] = s[K]
  · have hqb : ((s[K - 1].toNat : Int) != (s[K].toNat : Int)) = false := by rw [hq]; exact bne_self_eq_false _
    have HCB : Hid (crimpB xs s K = false) := crimpB_eq hsK hq
    clear hq
    go_enter Try.func35, Try.ntmps35
    go_wp2
    go_quiet (fail)
    go_wp2
    go_ret
    exact ⟨ret_bool HCB.out.symm, below_drewN bb _⟩
  · have hqb : ((s[K - 1].toNat : Int) != (s[K].toNat : Int)) = true := by rw [bne_iff_ne]; intro e; exact hq (UInt8.toNat_inj.1 (by omega))
    by_cases h2 : xs[K]?.getD 0 ≤ xs[K - 1]?.getD 0
    · have hd2 : decide (xs[K]?.getD 0 ≤ xs[K - 1]?.getD 0) = true := decide_eq_true h2
      by_cases h3 : xs[K]?.getD 0 ≤ xs[K + 1]?.getD 0
      · have hd3 : decide (xs[K]?.getD 0 ≤ xs[K + 1]?.getD 0) = true := decide_eq_true h3
        have HCB : Hid (crimpB xs s K = true) := crimpB_yes hsK hq h2 h3
        clear hq
        go_enter Try.func35, Try.ntmps35
        go_wp2
        go_quiet (fail)
        go_wp2
        go_ret
        exact ⟨ret_bool HCB.out.symm, below_drewN bb _⟩
      · have hd3 : decide (xs[K]?.getD 0 ≤ xs[K + 1]?.getD 0) = false := decide_eq_false h3
        have HCB : Hid (crimpB xs s K = false) := crimpB_no (fun q => h3 q.2)
        clear hq
        go_enter Try.func35, Try.ntmps35
        go_wp2
        go_quiet (fail)
        go_wp2
        go_ret
        exact ⟨ret_bool HCB.out.symm, below_drewN bb _⟩
    · have hd2 : decide (xs[K]?.getD 0 ≤ xs[K - 1]?.getD 0) = false := decide_eq_false h2
      have HCB : Hid (crimpB xs s K = false) := crimpB_no (fun q => h2 q.1)
      clear hq
      go_enter Try.func35, Try.ntmps35
      go_wp2
      go_quiet (fail)
      go_wp2
      go_ret
      exact ⟨ret_bool HCB.out.symm, below_drewN bb _⟩

end Go.Proofs.Ytahbflbhkalehaa
