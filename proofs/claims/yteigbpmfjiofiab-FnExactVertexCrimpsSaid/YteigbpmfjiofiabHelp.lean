/-
  What the laws' own helpers compute: toIntS, eqIntS, markIntS, heldIntS.
-/
import Derived.Test.YteigbpmfjiofiabChecked
import Derived.Test.YteigbpmfjiofiabPlain
import Derived.Test.YteigbpmfjiofiabMem
import Derived.WalkLawsBesides
import Derived.Outline
import Derived.Deep.QuietTactic
import Derived.BigQuiet
namespace Go.Proofs.Yteigbpmfjiofiab
open Go.RowKit

theorem tyInts : ElemTy Try.prog 23 3 1 8 (.int .i64 0) :=
  ⟨Try.underlying23, info_parts (by kernel_rfl), rfl, by omega⟩

theorem set_take_drop (xs : List Int) (k n : Nat) (h : xs.length = n) (hk : k < n) :
    (xs.take k ++ List.replicate (n - k) 0).set k (xs[k]?.getD 0) = xs.take (k + 1) ++ List.replicate (n - (k + 1)) 0 := by
  apply List.ext_getElem?
  intro j
  grind

set_option maxHeartbeats 400000 in
theorem toIntS (a : Option Addr) (n cap : Nat) (xs : List Int) (w : World) (h : Ints w a n cap xs) (hn : n ≤ 1048576) :
    Calls Try.prog 24 #[.slice a n cap] w (RInts w xs) := by
  have hm := h.cap_max
  have hle := h.le_cap
  have H := Lib.hid h.length
  go_enter Try.func24, Try.ntmps24
  go_wp2_with (at_make; refine wpList_make_ints tyInts rfl _ _ rfl w.heap.size _ _ n rfl rfl rfl rfl (by omega) (Nat.le_refl _) ?_; intro w1 hown hg)
  have hB : Below w.heap.size w w1 := (Below.refl _ _).grown hg (Nat.le_refl _) (by simp)
  clear hg
  go_loopw [4] (fun i wr => ∃ k : Nat, k ≤ n ∧ i = .int .i64 k ∧ OwnI wr w.heap.size (some ⟨w.heap.size, 0, none⟩) n n (xs.take k ++ List.replicate (n - k) 0) ∧ Below w.heap.size w wr) (fun i _ => n - (intOf i).toNat)
  case atStart => exact ⟨0, Nat.zero_le _, rfl, by simpa using hown, hB⟩
  case round =>
    obtain ⟨k, hk, rfl, HO, hBr⟩ := hrel
    by_cases hlt : k < n
    · obtain ⟨b, off, rfl, hc⟩ := (h.below hBr).cells (by omega)
      have hck := hc k hlt
      have hgk := HO.cell hlt
      have hfk := HO.frozen k
      clear hc
      go_wp2
      go_roundw
      case rel => exact ⟨k + 1, by omega, by go_num, by have := HO.stored k (xs[k]?.getD 0); rwa [set_take_drop xs k n H.out hlt] at this, hBr.setCell (p := ⟨w.heap.size, k, none⟩) (Nat.le_refl _) _⟩
      case measure => simp [intOf]; omega
    · go_wp2
      go_ret
      refine ⟨_, _, _, rfl, ?_, hBr⟩
      have h1 := HO
      rwa [show n - k = 0 by omega, List.take_of_length_le (by rw [H.out]; omega), List.replicate_zero, List.append_nil] at h1

set_option maxHeartbeats 400000 in
theorem eqIntS_same (a a' : Option Addr) (n n' cap cap' : Nat) (xs : List Int) (w : World) (h : Ints w a n cap xs) (h' : Ints w a' n' cap' xs) :
    Calls Try.prog 26 #[.slice a n cap, .slice a' n' cap'] w (RVal w (.bool true)) := by
  obtain rfl : n = n' := h.length.symm.trans h'.length
  have hm := h.cap_max
  have hle := h.le_cap
  have hle' := h'.le_cap
  go_enter Try.func26, Try.ntmps26
  go_wp2
  go_loopw [5] (fun i wr => ∃ k : Nat, k ≤ n ∧ i = .int .i64 k ∧ Below w.heap.size w wr) (fun i _ => n - (intOf i).toNat)
  case atStart => exact ⟨0, Nat.zero_le _, rfl, Below.refl _ _⟩
  case round =>
    obtain ⟨k, hk, rfl, hBr⟩ := hrel
    by_cases hlt : k < n
    · obtain ⟨b, off, rfl, hc⟩ := (h.below hBr).cells (by omega)
      obtain ⟨b', off', rfl, hc'⟩ := (h'.below hBr).cells (by omega)
      have hck := hc k hlt
      have hck' := hc' k hlt
      clear hc hc'
      go_wp2
      go_quiet (fail)
      go_wp2
      go_roundw
      case rel => exact ⟨k + 1, by omega, by go_num, below_drewN hBr _⟩
      case measure => simp [intOf]; omega
    · go_wp2
      go_ret
      exact ⟨rfl, hBr⟩

/-- What markIntS lays. -/
def marks (n : Nat) : List Int := (List.range n).map fun i : Nat => (1 + i : Int)
theorem marks_length (n : Nat) : (marks n).length = n := by simp [marks]
theorem marks_get (n k : Nat) (h : k < n) : (marks n)[k]?.getD 0 = 1 + (k : Int) := by simp [marks, h]
theorem marks_set (xs : List Int) (k n : Nat) (h : xs.length = n) (hk : k < n) :
    (marks k ++ xs.drop k).set k (1 + (k : Int)) = marks (k + 1) ++ xs.drop (k + 1) := by
  apply List.ext_getElem?
  intro j
  have := marks_length k
  have := marks_length (k + 1)
  unfold marks at *
  grind

set_option maxHeartbeats 400000 in
theorem markIntS (a : Option Addr) (base n cap : Nat) (xs : List Int) (w : World) (h : OwnI w base a n cap xs) (hn : n ≤ 2000000) :
    Calls Try.prog 27 #[.slice a n cap, .int .i64 1] w fun e w' => e = .returned (.int .i64 (1 + n)) ∧ OwnI w' base a n cap (marks n) ∧ w.grownBy w' (a.map (·.block)) := by
  have hm := h.ints.cap_max
  have hle := h.ints.le_cap
  have H := Lib.hid h.length
  go_enter Try.func27, Try.ntmps27
  go_wp2
  go_loopw [1, 5] (fun q i wr => ∃ k : Nat, k ≤ n ∧ i = .int .i64 k ∧ q = .int .i64 (1 + k) ∧ OwnI wr base a n cap (marks k ++ xs.drop k) ∧ w.grownBy wr (a.map (·.block))) (fun _ i _ => n - (intOf i).toNat)
  case atStart => exact ⟨0, Nat.zero_le _, rfl, rfl, by simpa [marks] using h, World.grownBy.refl _ _⟩
  case round =>
    obtain ⟨k, hk, rfl, rfl, HO, hBr⟩ := hrel
    by_cases hlt : k < n
    · rcases Own.form HO with ⟨_, h0, _⟩ | ⟨g, rfl, _, _⟩
      · exact absurd h0 (by omega)
      · have hgk := HO.cell hlt
        have hfk := HO.frozen k
        go_wp2
        go_roundw
        case rel => exact ⟨k + 1, by omega, by go_num, by go_num, by have := HO.stored k (1 + (k : Int)); rwa [marks_set xs k n H.out hlt] at this, hBr.trans (World.ownsRow.stored HO k _).2⟩
        case measure => simp [intOf]; omega
    · go_wp2
      go_ret
      obtain rfl : k = n := by omega
      refine ⟨rfl, ?_, hBr⟩
      rwa [List.drop_of_length_le (by rw [H.out]; omega), List.append_nil] at HO

set_option maxHeartbeats 400000 in
theorem heldIntS (a : Option Addr) (n cap : Nat) (w : World) (h : Ints w a n cap (marks n)) (hn : n ≤ 2000000) :
    Calls Try.prog 28 #[.slice a n cap, .int .i64 1] w (RVal w (.int .i64 (1 + n))) := by
  have hm := h.cap_max
  have hle := h.le_cap
  go_enter Try.func28, Try.ntmps28
  go_wp2
  go_loop [1, 5] (fun q i => ∃ k : Nat, k ≤ n ∧ i = .int .i64 k ∧ q = .int .i64 (1 + k)) (fun _ i => n - (intOf i).toNat)
  case atStart => exact ⟨0, Nat.zero_le _, rfl, rfl⟩
  case round =>
    obtain ⟨k, hk, rfl, rfl⟩ := hrel
    by_cases hlt : k < n
    · obtain ⟨b, off, rfl, hc⟩ := h.cells (by omega)
      have hck := hc k hlt
      rw [marks_get n k hlt] at hck
      clear hc
      go_wp2
      go_round
      case rel => exact ⟨k + 1, by omega, by go_num, by go_num⟩
      case measure => simp [intOf]; omega
    · go_wp2
      go_ret
      obtain rfl : k = n := by omega
      exact ⟨rfl, Below.refl _ _⟩

end Go.Proofs.Yteigbpmfjiofiab
