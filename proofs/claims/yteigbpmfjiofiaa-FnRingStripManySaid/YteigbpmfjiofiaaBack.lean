/-
  What AnglesBack computes, in the reference and in the program, by a walk through each.
-/
import Derived.Test.YteigbpmfjiofiaaTurn
namespace Go.Proofs.Yteigbpmfjiofiaa
open Go.RowKit

theorem rev_take (xs : List Int) (j n : Nat) (h : xs.length = n) (hj : j < n) : xs.reverse.take (j + 1) = xs.reverse.take j ++ [xs[n - 1 - j]?.getD 0] := by
  rw [take_snocI _ j (by simp; omega), List.getElem?_reverse (by omega), h]

set_option maxHeartbeats 400000 in
theorem spec_l1Back (a : Option Addr) (n cap : Nat) (xs : List Int) (w : World) (h : Ints w a n cap xs) (hn : n ≤ 1048576) :
    Calls Try.prog 60 #[.slice a n cap] w (RInts w xs.reverse) := by
  have H := Lib.hid h.length
  have hle := h.le_cap
  go_enter Try.func60, Try.ntmps60
  go_wp2
  go_loopw [3, 4] (fun v i wr => ∃ (j : Nat) (A : Option Addr) (c : Nat), j ≤ n ∧ i = .int .i64 ((n : Int) - 1 - j) ∧ v = .slice A j c ∧ OwnI wr w.heap.size A j c (xs.reverse.take j) ∧ Below w.heap.size w wr) (fun _ i _ => (intOf i + 1).toNat)
  case atStart => exact ⟨0, _, _, Nat.zero_le _, by go_num, rfl, OwnI.lit0 w (Nat.le_refl _), (Below.refl _ _).alloc (Nat.le_refl _) _⟩
  case round =>
    obtain ⟨j, A, c, hj, rfl, rfl, HO, hB⟩ := hrel
    by_cases hlt : j < n
    · obtain ⟨b, off, rfl, hc⟩ := (h.below hB).cells (by omega)
      have hck := hc (n - 1 - j) (by omega)
      clear hc
      go_wp2_with (at_builtin; (refine wpList_append_int tyInts rfl _ _ rfl w.heap.size A j c _ rfl (HO.below ((Below.refl _ _).alloc (Nat.le_refl _) _)) wr.heap.size (xs[n - 1 - j]?.getD 0) rfl (by simp) (by omega) (by have := hB.size; simp; omega) ?_); intro A2 c2 w2 o2 g2 e2; have b2 := Below.appended (hB.alloc hB.size _) (by have := hB.size; simp; omega) g2 HO.base_le; clear g2 e2)
      go_roundw
      case rel => exact ⟨j + 1, A2, c2, by omega, by go_num, rfl, by rw [rev_take xs j n H.out hlt]; exact o2, b2⟩
      case measure => simp [intOf]; omega
    · go_wp2
      go_ret
      refine ⟨_, _, _, rfl, ?_, hB⟩
      rwa [take_allI _ j (by simp [H.out]; omega)] at HO

theorem rev_set (xs : List Int) (k n : Nat) (h : xs.length = n) (hk : k < n) :
    (List.replicate (n - k) 0 ++ (xs.take k).reverse).set (n - 1 - k) (xs[k]?.getD 0) = List.replicate (n - (k + 1)) 0 ++ (xs.take (k + 1)).reverse := by
  rw [take_snocI xs k (by omega), List.reverse_append, List.reverse_singleton, List.singleton_append]
  apply List.ext_getElem?
  intro j
  rw [List.getElem?_set]
  simp only [List.getElem?_append, List.length_append, List.length_replicate, List.length_reverse, List.length_take, List.getElem?_replicate]
  by_cases hj : n - 1 - k = j
  · subst hj
    rw [if_pos rfl, if_pos (by omega), if_neg (by omega), show n - 1 - k - (n - (k + 1)) = 0 by omega]
    rfl
  · rw [if_neg hj]
    by_cases h1 : j < n - k
    · rw [if_pos h1, if_pos h1, if_pos (by omega), if_pos (by omega)]
    · rw [if_neg h1, if_neg (by omega), show j - (n - (k + 1)) = (j - (n - k)) + 1 by omega, List.getElem?_cons_succ]

end Go.Proofs.Yteigbpmfjiofiaa
