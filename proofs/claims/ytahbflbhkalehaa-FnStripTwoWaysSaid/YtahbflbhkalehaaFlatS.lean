/-
  What the reference computes of parts laid flat: l2AllFolds, l2Covers, l2Apart, l2Right.
-/
import Derived.Test.YtahbflbhkalehaaFlatM
import Derived.Test.YtahbflbhkalehaaStampS
namespace Go.Proofs.Ytahbflbhkalehaa
open Go.RowKit

theorem tyFoldsS : ElemTy Try.prog 73 76 4 32 (.agg #[.int .i64 0, .int .i64 0, .int .i64 0, .int .u8 0]) :=
  ⟨Try.underlying73, info_parts (by kernel_rfl), rfl, by omega⟩

/-- What l2AllFolds hands back. -/
def RFolds (w : World) (m : Nat) (F : List Fd) (bs : Nat → UInt8) (e : Ending) (w' : World) : Prop := ∃ a c, e = .returned (.slice a m c) ∧ Own w' w.heap.size 76 4 a m c (rows (rowS F bs) m) ∧ Below w.heap.size w w'

theorem u8_bd (c : UInt8) : 0 ≤ (c.toNat : Int) ∧ (c.toNat : Int) ≤ 255 := by have := c.toNat_lt; omega

set_option maxRecDepth 100000 in
set_option maxHeartbeats 4000000 in
theorem spec_l2AllFolds_strip (a : Option Addr) (n cap : Nat) (xs : List Int) (s : ByteArray) (w : World) (h : Ints w a n cap xs) (hn1 : 1 ≤ n) (hn : n ≤ 6) (hin : allIn 1 1000 xs) (hs : s.size + 1 = n) :
    Calls Try.prog 48 #[.slice a n cap, .string s, .bool false] w (RFolds w (n - 1) (stripFs xs s) (bAt s)) := by
  have hle := h.le_cap
  have hmx := h.cap_max
  have HL := Lib.hid h.length
  have P1 := Lib.hid (spec_l2Places a n cap xs w h hn hin)
  have HPL := Lib.hid (placesL_length xs)
  clear h hin
  go_enter Try.func48, Try.ntmps48
  go_wp2_with fail
  refine P1.out.mono ?_
  rintro e w1 ⟨a1, n1, c1, rfl, o1, b1⟩
  have hn1' : n1 = n + 1 := by rw [← o1.length, HPL.out, HL.out]
  subst hn1'
  go_wp2_with fail
  go_loopg [8, 10] n (fun q v i wr => ∃ (k : Nat) (A : Option Addr) (c : Nat), k + 1 ≤ n ∧ q = n - k ∧ i = .int .i64 k ∧ v = .slice A k c ∧ Own wr w1.heap.size 76 4 A k c (rows (rowS (stripFs xs s) (bAt s)) k) ∧ Below w1.heap.size w1 wr)
  case atStart => exact ⟨0, _, _, by omega, rfl, rfl, rfl, World.ownsRow_lit (size := 4) w1 #[] 0 (Nat.le_refl _) (by unfold maxLen; omega) rfl, (Below.refl _ _).alloc (Nat.le_refl _) _⟩
  case round =>
    obtain ⟨k, A, c, hk, hq, rfl, rfl, HO, hB1⟩ := hrel
    have hz1 := b1.size
    have HQ := Lib.hid hq
    clear hq
    by_cases hlt : k + 1 < n
    · have hks : k < s.size := by omega
      have hltI : (k : Int) + 1 < (n : Int) := by omega
      obtain ⟨bP, oP, rfl, hc⟩ := (o1.ints.below hB1).cells (by omega)
      have hpl := hc (k + 1) (by omega)
      rw [placesL_get xs (k + 1) (by rw [HL.out]; omega)] at hpl
      have hi1 : (k : Int) + 1 < (n : Int) + 1 := by omega
      have hi2 : (0 : Int) ≤ (k : Int) + 1 := by omega
      have hi3 : (k : Int) < (s.size : Int) := by omega
      have ht1 : ((k : Int) + 1).toNat = k + 1 := by omega
      have hw1 : IntKind.i64.wrap ((k : Int) + 1) = (k : Int) + 1 := IntWalk.i64_in _ (by omega)
      have hpc := o1.ints.le_cap
      have hq1 : k + 1 ≤ 9223372036854775807 := by omega
      have hq2 : (k + 1) * 32 ≤ 140737488355328 := by omega
      have hq3 : w1.heap.size ≤ wr.heap.size + 1 := by have := hB1.size; omega
      have HF := Lib.hid (show rows (rowS (stripFs xs s) (bAt s)) (k + 1) = rows (rowS (stripFs xs s) (bAt s)) k ++ [.int .i64 k, .int .i64 ((k : Int) + 1), .int .i64 (alt (xs.take (k + 1))), .int .u8 (s[k].toNat : Int)] by
        rw [rows_succ]
        unfold rowS
        rw [stripFs_at (by rw [HL.out]; omega), bAt_get s k hks]
        rfl)
      clear hc
      go_wp2_with fail
      go_region_law (refine step_append_cells tyFoldsS rfl (.tmp 33) (.tmp 46) rfl w1.heap.size A k c _ (by simp [Act.eval]) (Own.below HO (((Below.refl _ _).alloc (Nat.le_refl _) _).drew)) (some ⟨wr.heap.size, 0, none⟩) 1 1 [.int .i64 k, .int .i64 ((k : Int) + 1), .int .i64 (alt (xs.take (k + 1))), .int .u8 (s[k].toNat : Int)] (by simp [Act.eval]) ⟨rfl, Nat.le_refl _, by unfold maxLen; omega, fun _ => ⟨_, 0, rfl, fun j u hu => by
          match j, hu with
          | 0, hu => cases hu; simp
          | 1, hu => cases hu; simp
          | 2, hu => cases hu; simp
          | 3, hu => cases hu; simp⟩⟩ (by intro u hu; simp only [List.mem_cons, List.not_mem_nil, or_false] at hu; rcases hu with rfl | rfl | rfl | rfl <;> rfl) hq1 hq2 (by simpa using hq3) ?_; intro A2 c2 w2 o2 g2 e2; have b2 := Below.appended ((hB1.alloc hB1.size _).drew) (by simpa using hq3) g2 (fun x hx => by rcases Own.form HO with ⟨e, _⟩ | ⟨g', e, hg', _⟩; (· rw [e] at hx; cases hx); (· rw [e] at hx; cases hx; exact hg')); clear e2)
      all_goals
        rw [← HF.out] at o2
        go_wp2_with fail
        go_roundg (n - (k + 1))
        case measure => have := HQ.out; omega
        case rel => exact ⟨k + 1, A2, c2, by omega, rfl, by go_num, rfl, o2, b2⟩
    · have hltI : ¬ (k : Int) + 1 < (n : Int) := by omega
      obtain rfl : n = k + 1 := by omega
      go_wp2_with fail
      go_ret
      exact ⟨_, _, rfl, Own.mono HO hz1, b1.trans (hB1.mono hz1)⟩

end Go.Proofs.Ytahbflbhkalehaa
