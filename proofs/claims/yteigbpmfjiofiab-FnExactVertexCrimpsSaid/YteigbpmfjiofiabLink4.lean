/-
  What VertexCrimps hands back, on both sides.
-/
import Derived.Test.YteigbpmfjiofiabLink3
import Derived.Test.YteigbpmfjiofiabAngles
import Derived.Test.YteigbpmfjiofiabFolds
namespace Go.Proofs.Yteigbpmfjiofiab
open Go.RowKit

def vcL (xs : List Int) (s : ByteArray) : List Int := if (anglesB xs && foldsValidB s (xs.length : Int)) = true then crimpsL xs s else []

set_option maxRecDepth 100000 in
set_option maxHeartbeats 1000000 in
theorem impl_VertexCrimps (a : Option Addr) (n cap : Nat) (xs : List Int) (s : ByteArray) (w : World) (h : Ints w a n cap xs) (hn : n ≤ 1048576) (hs : s.size ≤ maxLen) :
    Calls Try.prog 25 #[.slice a n cap, .string s] w (RInts w (vcL xs s)) := by
  have H1 := impl_AnglesValid a n cap xs w h
  have H2 := impl_FoldsValid s (n : Int) w hs
  have HL := Lib.hid h.length
  have hm := h.cap_max
  have hle := h.le_cap
  have HH := Lib.hid h
  by_cases hv : anglesB xs = true
  · by_cases hf : foldsValidB s (n : Int) = true
    · have HV : Hid (vcL xs s = crimpsL xs s) := by unfold Hid vcL; rw [HL.out, hv, hf]; rfl
      have hsz : s.size = n := by unfold foldsValidB at hf; simp only [Bool.and_eq_true, decide_eq_true_eq] at hf; omega
      rw [hv] at H1
      rw [hf] at H2
      have H1 := Lib.hid H1
      have H2 := Lib.hid H2
      have h1n : Hid (1 ≤ n) := by
        unfold Hid
        by_cases e : n = 0
        · exfalso
          have hx : xs = [] := List.length_eq_zero_iff.1 (by rw [HL.out]; exact e)
          rw [hx] at hv
          exact absurd hv (by decide)
        · omega
      have HSZ := Lib.hid hsz
      clear hv hf h hsz
      go_enter Try.func25, Try.ntmps25
      go_wp2_with (first | (go_at_call 47; refine H1.out.mono ?_; rintro e w' ⟨rfl, rfl⟩) | (go_at_call 48; refine H2.out.mono ?_; rintro e w' ⟨rfl, rfl⟩))
      refine (impl_newCreaseRing a n cap xs s _ HH.out hn HSZ.out).mono ?_
      rintro e w2 ⟨rfl, r2, b2⟩
      go_wp2_with fail
      refine (impl_crimps _ n xs s w2 r2 HL.out hn h1n.out).mono ?_
      rintro e w3 ⟨A3, n3, c3, rfl, o3, b3⟩
      go_wp2_with fail
      go_ret
      rw [HV.out]
      exact ⟨_, _, _, rfl, o3.mono b2.size, Below.call b2 b2.size b3⟩
    · have hf' : foldsValidB s (n : Int) = false := by simpa using hf
      have HV : Hid (vcL xs s = []) := by unfold Hid vcL; rw [HL.out, hf', Bool.and_false]; rfl
      rw [hv] at H1
      rw [hf'] at H2
      have H1 := Lib.hid H1
      have H2 := Lib.hid H2
      clear hv hf hf' h
      go_enter Try.func25, Try.ntmps25
      go_wp2_with (first | (go_at_call 47; refine H1.out.mono ?_; rintro e w' ⟨rfl, rfl⟩) | (go_at_call 48; refine H2.out.mono ?_; rintro e w' ⟨rfl, rfl⟩))
      go_ret
      rw [HV.out]
      exact ⟨_, _, _, rfl, OwnI.lit0 _ (Nat.le_refl _), (Below.refl _ _).alloc (Nat.le_refl _) _⟩
  · have hv' : anglesB xs = false := by simpa using hv
    have HV : Hid (vcL xs s = []) := by unfold Hid vcL; rw [hv', Bool.false_and]; rfl
    rw [hv'] at H1
    have H1 := Lib.hid H1
    clear hv hv' h H2
    go_enter Try.func25, Try.ntmps25
    go_wp2_with (first | (go_at_call 47; refine H1.out.mono ?_; rintro e w' ⟨rfl, rfl⟩) | (go_at_call 48; refine H1.out.mono ?_; rintro e w' ⟨rfl, rfl⟩))
    go_ret
    rw [HV.out]
    exact ⟨_, _, _, rfl, OwnI.lit0 _ (Nat.le_refl _), (Below.refl _ _).alloc (Nat.le_refl _) _⟩

set_option maxRecDepth 100000 in
set_option maxHeartbeats 1000000 in
theorem spec_VertexCrimps (a : Option Addr) (n cap : Nat) (xs : List Int) (s : ByteArray) (w : World) (h : Ints w a n cap xs) (hn : n ≤ 1048576) (hs : s.size ≤ maxLen) :
    Calls Try.prog 23 #[.slice a n cap, .string s] w (RInts w (vcL xs s)) := by
  have H1 := spec_AnglesValid a n cap xs w h hn
  have H2 := spec_FoldsValid s (n : Int) w hs
  have HL := Lib.hid h.length
  have hm := h.cap_max
  have hle := h.le_cap
  have HH := Lib.hid h
  by_cases hv : anglesB xs = true
  · by_cases hf : foldsValidB s (n : Int) = true
    · have HV : Hid (vcL xs s = crimpsL xs s) := by unfold Hid vcL; rw [HL.out, hv, hf]; rfl
      have hsz : s.size = n := by unfold foldsValidB at hf; simp only [Bool.and_eq_true, decide_eq_true_eq] at hf; omega
      rw [hv] at H1
      rw [hf] at H2
      have H1 := Lib.hid H1
      have H2 := Lib.hid H2
      have h1n : Hid (1 ≤ n) := by
        unfold Hid
        by_cases e : n = 0
        · exfalso
          have hx : xs = [] := List.length_eq_zero_iff.1 (by rw [HL.out]; exact e)
          rw [hx] at hv
          exact absurd hv (by decide)
        · omega
      have HSZ := Lib.hid hsz
      clear hv hf h hsz
      go_enter Try.func23, Try.ntmps23
      go_wp2_with (first | (go_at_call 44; refine H1.out.mono ?_; rintro e w' ⟨rfl, rfl⟩) | (go_at_call 45; refine H2.out.mono ?_; rintro e w' ⟨rfl, rfl⟩))
      refine (spec_l1Crimps a n cap xs s _ HH.out hn HSZ.out).mono ?_
      rintro e w3 ⟨A3, n3, c3, rfl, o3, b3⟩
      go_wp2_with fail
      go_ret
      rw [HV.out]
      exact ⟨_, _, _, rfl, o3, b3⟩
    · have hf' : foldsValidB s (n : Int) = false := by simpa using hf
      have HV : Hid (vcL xs s = []) := by unfold Hid vcL; rw [HL.out, hf', Bool.and_false]; rfl
      rw [hv] at H1
      rw [hf'] at H2
      have H1 := Lib.hid H1
      have H2 := Lib.hid H2
      clear hv hf hf' h
      go_enter Try.func23, Try.ntmps23
      go_wp2_with (first | (go_at_call 44; refine H1.out.mono ?_; rintro e w' ⟨rfl, rfl⟩) | (go_at_call 45; refine H2.out.mono ?_; rintro e w' ⟨rfl, rfl⟩))
      go_ret
      rw [HV.out]
      exact ⟨_, _, _, rfl, OwnI.lit0 _ (Nat.le_refl _), (Below.refl _ _).alloc (Nat.le_refl _) _⟩
  · have hv' : anglesB xs = false := by simpa using hv
    have HV : Hid (vcL xs s = []) := by unfold Hid vcL; rw [hv', Bool.false_and]; rfl
    rw [hv'] at H1
    have H1 := Lib.hid H1
    clear hv hv' h H2
    go_enter Try.func23, Try.ntmps23
    go_wp2_with (first | (go_at_call 44; refine H1.out.mono ?_; rintro e w' ⟨rfl, rfl⟩) | (go_at_call 45; refine H1.out.mono ?_; rintro e w' ⟨rfl, rfl⟩))
    go_ret
    rw [HV.out]
    exact ⟨_, _, _, rfl, OwnI.lit0 _ (Nat.le_refl _), (Below.refl _ _).alloc (Nat.le_refl _) _⟩

end Go.Proofs.Yteigbpmfjiofiab
