/-
  What the laws' own helpers compute: a list in the opposite order, lists of ones, powers of two, texts of folds.
-/
import Derived.Test.YteigbpmfjiofiaaBack
import Derived.Test.YteigbpmfjiofiaaBalance
import Derived.Test.YteigbpmfjiofiaaPlainE
import Derived.StillTailTactics
import Derived.BigQuiet
namespace Go.Proofs.Yteigbpmfjiofiaa
open Go.RowKit

set_option maxHeartbeats 400000 in
theorem laws_reversed (a : Option Addr) (n cap : Nat) (xs : List Int) (w : World) (h : Ints w a n cap xs) (hn : n ≤ 1048576) :
    Calls Try.prog 33 #[.slice a n cap] w (RInts w xs.reverse) := by
  have H := Lib.hid h.length
  have hle := h.le_cap
  go_enter Try.func33, Try.ntmps33
  go_wp2
  go_loopw [3, 4] (fun v i wr => ∃ (j : Nat) (A : Option Addr) (c : Nat), j ≤ n ∧ i = .int .i64 ((n : Int) - 1 - j) ∧ v = .slice A j c ∧ OwnI wr w.heap.size A j c (xs.reverse.take j) ∧ Below w.heap.size w wr) (fun _ i _ => (intOf i + 1).toNat)
  case atStart => exact ⟨0, _, _, Nat.zero_le _, by go_num, rfl, OwnI.lit0 w (Nat.le_refl _), (Below.refl _ _).alloc (Nat.le_refl _) _⟩
  case round =>
    obtain ⟨j, A, c, hj, rfl, rfl, HO, hB⟩ := hrel
    by_cases hlt : j < n
    · obtain ⟨b, off, rfl, hc⟩ := (h.below hB).cells (by omega)
      have hck := hc (n - 1 - j) (by omega)
      clear hc
      go_wp2_with (at_builtin; (refine wpList_append_int tyInts rfl _ _ rfl w.heap.size A j c _ rfl (HO.below ((Below.refl _ _).alloc (Nat.le_refl _) _)) wr.heap.size (xs[n - 1 - j]?.getD 0) rfl (by simp) (by omega) (by have := hB.size; simp; omega) ?_); intro A2 c2 w2 o2 g2 e2; have b2 := Below.appended (hB.alloc hB.size _) (by have := hB.size; simp; omega) g2 HO.base_le; clear g2 e2)
      go_roundw
      case rel => exact ⟨j + 1, A2, c2, by omega, by go_num, rfl, by rw [rev_take xs j n H.out hlt]; exact o2, b2⟩
      case measure => simp [intOf]; omega
    · go_wp2
      go_ret
      refine ⟨_, _, _, rfl, ?_, hB⟩
      rwa [take_allI _ j (by simp [H.out]; omega)] at HO

set_option maxHeartbeats 400000 in
theorem laws_ones (n : Nat) (w : World) (hn : n ≤ 1048576) :
    Calls Try.prog 40 #[.int .i64 n] w (RInts w (List.replicate n 1)) := by
  go_enter Try.func40, Try.ntmps40
  go_wp2
  go_loopw [3, 4] (fun v i wr => ∃ (j : Nat) (A : Option Addr) (c : Nat), j ≤ n ∧ i = .int .i64 j ∧ v = .slice A j c ∧ OwnI wr w.heap.size A j c (List.replicate j 1) ∧ Below w.heap.size w wr) (fun _ i _ => n - (intOf i).toNat)
  case atStart => exact ⟨0, _, _, Nat.zero_le _, rfl, rfl, OwnI.lit0 w (Nat.le_refl _), (Below.refl _ _).alloc (Nat.le_refl _) _⟩
  case round =>
    obtain ⟨j, A, c, hj, rfl, rfl, HO, hB⟩ := hrel
    by_cases hlt : j < n
    · go_wp2_with (at_builtin; (refine wpList_append_int tyInts rfl _ _ rfl w.heap.size A j c _ rfl (HO.below ((Below.refl _ _).alloc (Nat.le_refl _) _)) wr.heap.size 1 rfl (by simp) (by omega) (by have := hB.size; simp; omega) ?_); intro A2 c2 w2 o2 g2 e2; have b2 := Below.appended (hB.alloc hB.size _) (by have := hB.size; simp; omega) g2 HO.base_le; clear g2 e2)
      go_roundw
      case rel => exact ⟨j + 1, A2, c2, by omega, by go_num, rfl, by rw [List.replicate_succ']; exact o2, b2⟩
      case measure => simp [intOf]; omega
    · obtain rfl : j = n := by omega
      go_wp2
      go_ret
      exact ⟨_, _, _, rfl, HO, hB⟩

/-- The text of folds to and fro. -/
def zigS (k : Nat) : ByteArray := ⟨((List.range k).map fun j => if j % 2 = 0 then (86 : UInt8) else 77).toArray⟩
theorem zigS_size (k : Nat) : (zigS k).size = k := by
  show (((List.range k).map fun j => if j % 2 = 0 then (86 : UInt8) else 77).toArray).size = k
  simp
theorem zigS_zero : zigS 0 = ByteArray.empty := rfl
theorem zigS_succ (k : Nat) : zigS (k + 1) = zigS k ++ ⟨#[if k % 2 = 0 then (86 : UInt8) else 77]⟩ := by
  apply ByteArray.ext
  rw [ByteArray.data_append]
  unfold zigS
  rw [List.range_succ, List.map_append]
  simp
theorem zigS_at {k j : Nat} (h : j < k) : bAt (zigS k) j = if j % 2 = 0 then 86 else 77 := by
  unfold bAt zigS
  simp only [List.getElem?_map]
  rw [List.getElem?_range h]
  rfl
theorem zigS_MV (k : Nat) : (zigS k).data.toList.all isMV = true := by
  rw [allMV_iff]
  intro j hj
  rw [zigS_size] at hj
  rw [zigS_at hj]
  by_cases h : j % 2 = 0
  · rw [if_pos h]; exact .inr rfl
  · rw [if_neg h]; exact .inl rfl
theorem zig_right {xs : List Int} (h : lengthsB xs = true) : strLB xs (zigS (xs.length - 1)) (upI xs.length) = true := by
  obtain ⟨h1, _⟩ := lengthsB_len h
  refine strLB_iff.2 ⟨stripB_mk h (by rw [zigS_size]; omega) (zigS_MV _), zigzag_right (by rw [zigS_size]; omega) fun k hk => ?_⟩
  rw [zigS_size] at hk
  exact zigS_at hk
theorem upI_succ' (n : Nat) : upI (n + 1) = upI n ++ [(n : Int)] := upI_succ n

end Go.Proofs.Yteigbpmfjiofiaa
