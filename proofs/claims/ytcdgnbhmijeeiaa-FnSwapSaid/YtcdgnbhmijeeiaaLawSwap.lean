/-
  The walk through the law on FoldsSwap: it returns true.
-/
import Derived.Test.YtcdgnbhmijeeiaaDraw
import Derived.Test.YtcdgnbhmijeeiaaBalance
import Derived.Test.YtcdgnbhmijeeiaaFolds
namespace Go.Proofs.Ytcdgnbhmijeeiaa
open Go.RowKit

theorem swp_swp (c : UInt8) : swp (swp c) = c := by
  unfold swp
  by_cases h1 : c = 77
  · subst h1; decide
  · rw [if_neg h1]
    by_cases h2 : c = 86
    · subst h2; decide
    · rw [if_neg h2, if_neg h1, if_neg h2]
theorem swapS_list (s : ByteArray) : (swapS s).data.toList = s.data.toList.map swp := by simp [swapS]
theorem swapS_swapS (s : ByteArray) : swapS (swapS s) = s := by
  apply ByteArray.ext
  apply Array.toList_inj.1
  rw [swapS_list, swapS_list, List.map_map]
  conv => rhs; rw [← List.map_id s.data.toList]
  exact List.map_congr_left fun c _ => swp_swp c
theorem swapS_size (s : ByteArray) : (swapS s).size = s.size := by
  rw [← size_list, swapS_list, List.length_map, size_list]
theorem swp_other {c : UInt8} (h1 : ¬ c = 77) (h2 : ¬ c = 86) : swp c = c := by unfold swp; rw [if_neg h1, if_neg h2]
theorem bal1_swp (c : UInt8) : bal1 (swp c) = - bal1 c := by
  by_cases h1 : c = 77
  · subst h1; decide
  · by_cases h2 : c = 86
    · subst h2; decide
    · rw [swp_other h1 h2]; unfold bal1; rw [if_neg h1, if_neg h2]; rfl
theorem bal_swap (l : List UInt8) : bal (l.map swp) = - bal l := by
  induction l with
  | nil => rfl
  | cons c r ih => rw [List.map_cons, bal, bal, bal1_swp, ih]; omega
theorem isMV_swp (c : UInt8) : isMV (swp c) = isMV c := by
  unfold swp isMV
  by_cases h1 : c = 77
  · subst h1; decide
  · rw [if_neg h1]
    by_cases h2 : c = 86
    · subst h2; decide
    · rw [if_neg h2]
theorem valid_swap (s : ByteArray) (n : Int) : foldsValidB (swapS s) n = foldsValidB s n := by
  unfold foldsValidB
  rw [swapS_size, swapS_list, List.all_map]
  congr 2
  funext c
  exact isMV_swp c

set_option maxRecDepth 100000 in
set_option maxHeartbeats 2000000 in
theorem law_FnSwap (w : World) (a : Option Addr) (n cap : Nat) (bs : List Int) (hx : Bytes w a n cap bs) :
    Calls Try.prog 3 #[.slice a n cap] w (RVal w (.bool true)) := by
  have hle := hx.1.le
  have hmx := hx.1.max
  unfold maxLen at hmx
  by_cases hn : n ≤ 1048576
  · have H1 := Lib.hid (spec_DrawFoldsSwap a n cap bs w hx)
    go_enter Try.func3, Try.ntmps3
    go_wp2_with fail
    refine H1.out.mono ?_
    rintro e w1 ⟨s, rfl, hs, b1⟩
    have hs' : s.size ≤ maxLen := by unfold maxLen; omega
    have HS := Lib.hid hs'
    go_wp2_with fail
    refine (impl_FoldsSwap s w1 HS.out).mono ?_
    rintro e w2 ⟨rfl, b2⟩
    go_wp2_with fail
    refine (spec_FoldsSwap s w2 HS.out).mono ?_
    rintro e w3 ⟨rfl, rfl⟩
    go_wp2_with fail
    · go_ret
      exact ⟨rfl, Below.call b1 b1.size b2⟩
    · have hz : (swapS s).size ≤ maxLen := by rw [swapS_size]; exact HS.out
      have HZ := Lib.hid hz
      have H4 := impl_FoldsSwap (swapS s) w2 hz
      rw [swapS_swapS] at H4
      refine H4.mono ?_
      clear H4
      rintro e w4 ⟨rfl, b4⟩
      have B4 := Below.call (Below.call b1 b1.size b2) (Below.call b1 b1.size b2).size b4
      go_wp2_with fail
      have H5 := impl_FoldsBalance (swapS s) w4 HZ.out
      rw [swapS_list, bal_swap] at H5
      refine H5.mono ?_
      clear H5
      rintro e w5 ⟨rfl, rfl⟩
      have hbd := bal_bd s.data.toList
      rw [size_list] at hbd
      go_wp2_with fail
      refine (impl_FoldsBalance s w4 HS.out).mono ?_
      rintro e w6 ⟨rfl, rfl⟩
      go_wp2_with fail
      have H7 := impl_FoldsValid (swapS s) (s.size : Int) w4 HZ.out
      rw [valid_swap] at H7
      refine H7.mono ?_
      clear H7
      rintro e w7 ⟨rfl, rfl⟩
      go_wp2_with fail
      refine (impl_FoldsValid s (s.size : Int) w4 HS.out).mono ?_
      rintro e w8 ⟨rfl, rfl⟩
      have HZ2 := Lib.hid (swapS_size s)
      have hz2 : ((swapS s).size == s.size) = true := by rw [beq_iff_eq]; exact swapS_size s
      go_wp2_with fail
      go_ret
      exact ⟨by rw [HZ2.out]; simp, B4⟩
  · go_enter Try.func3, Try.ntmps3
    go_wp2_with fail
    go_ret
    exact ⟨rfl, Below.refl _ _⟩

end Go.Proofs.Ytcdgnbhmijeeiaa
