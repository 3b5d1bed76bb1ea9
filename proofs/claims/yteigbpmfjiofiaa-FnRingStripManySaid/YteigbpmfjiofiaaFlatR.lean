/-
  What the reference's l2AllFolds makes of a ring.
-/
import Derived.Test.YteigbpmfjiofiaaFlatS
namespace Go.Proofs.Yteigbpmfjiofiaa
open Go.RowKit

theorem drop_one_at (s : ByteArray) (k : Nat) (h : k + 1 < s.size) : ∃ h' : k < (s.extract 1 s.size).size, (s.extract 1 s.size)[k] = s[k + 1] := by
  refine ⟨by rw [ByteArray.size_extract]; omega, ?_⟩
  rw [ByteArray.getElem_extract]
  congr 1
  omega
theorem drop_one_size (s : ByteArray) : (s.extract 1 s.size).size = s.size - 1 := by rw [ByteArray.size_extract]; omega

theorem heap_last (w : World) (o : Obj) (g : Nat) (h : g = w.heap.size) : (w.alloc o).drew.heap[g]? = some o := by
  subst h
  show (w.heap.push o)[w.heap.size]? = some o
  exact Array.getElem?_push_size

theorem Own.app {w : World} {base g c : Nat} {e : TypeId} {row z : Array Value} (hr : row.size = 4) (hz : z.size = 4) (hb : base ≤ g) (hc1 : 1 ≤ c) (hc2 : c ≤ maxLen) (hg : w.heap[g]? = some (.cells (row ++ Builtin.zeroCells z (c - 1)) e)) : Own w base e 4 (some ⟨g, 0, none⟩) 1 c row.toList := by
  refine ⟨by simp [hr], .inr ⟨g, c, _, rfl, hb, hg, hc1, hc2, ?_, ?_⟩⟩
  · simp only [Array.size_append, hr, Builtin.zeroCells, Array.size_map, Array.size_range, hz]
    omega
  · rw [Array.toList_append, List.take_append_of_le_length (by simp [hr]), List.take_of_length_le (by simp [hr])]

set_option maxRecDepth 100000 in
set_option maxHeartbeats 4000000 in
theorem spec_l2AllFolds_ring (a : Option Addr) (n cap : Nat) (xs : List Int) (s : ByteArray) (w : World) (h : Ints w a n cap xs) (hn1 : 2 ≤ n) (hn : n ≤ 6) (hin : allIn 1 1000 xs) (hs : s.size = n) :
    Calls Try.prog 67 #[.slice a n cap, .string s, .bool true] w (RFolds w n (ringFs xs s) (bAt s)) := by
  have hle := h.le_cap
  have hmx := h.cap_max
  have HL := Lib.hid h.length
  have P1 := Lib.hid (spec_l2Places a n cap xs w h hn hin)
  have HPL := Lib.hid (placesL_length xs)
  clear h hin
  have hs0 : 0 < s.size := by omega
  have hs0I : (0 : Int) < (s.size : Int) := by omega
  have hw0 : IntKind.i64.wrap ((n : Int) - 1) = (n : Int) - 1 := IntWalk.i64_in _ (by omega)
  go_enter Try.func67, Try.ntmps67
  go_wp2_with fail
  refine P1.out.mono ?_
  rintro e w1 ⟨a1, n1, c1, rfl, o1, b1⟩
  have hn1' : n1 = n + 1 := by rw [← o1.length, HPL.out, HL.out]
  subst hn1'
  have hz1 := b1.size
  go_wp2_with fail
  have hcc : ∀ x : Nat, 1 ≤ (Question.appendCap 1 0 62).cut x ∧ (Question.appendCap 1 0 62).cut x ≤ maxLen := fun x => by
    simp only [Question.cut]
    unfold maxLen
    have := Nat.mod_lt x (show 0 < 2 ^ 63 - 1 by decide)
    omega
  obtain ⟨hc1, hc2⟩ := hcc (w1.tape w1.drawn (Question.appendCap 1 0 62))
  generalize (Question.appendCap 1 0 62).cut (w1.tape w1.drawn (Question.appendCap 1 0 62)) = cc at hc1 hc2 ⊢
  have o0 : Own ((((w1.alloc (.cells #[] 62)).alloc (.cells #[.int .i64 ((n : Int) - 1), .int .i64 0, .int .i64 0, .int .u8 (s[0].toNat : Int)] 62)).alloc (.cells (#[.int .i64 ((n : Int) - 1), .int .i64 0, .int .i64 0, .int .u8 (s[0].toNat : Int)] ++ Builtin.zeroCells #[.int .i64 0, .int .i64 0, .int .i64 0, .int .u8 0] (cc - 1)) 62)).drew) w1.heap.size 62 4 (some ⟨w1.heap.size + 1 + 1, 0, none⟩) 1 cc [.int .i64 ((n : Int) - 1), .int .i64 0, .int .i64 0, .int .u8 (s[0].toNat : Int)] :=
    Own.app (row := #[.int .i64 ((n : Int) - 1), .int .i64 0, .int .i64 0, .int .u8 (s[0].toNat : Int)]) (z := #[.int .i64 0, .int .i64 0, .int .i64 0, .int .u8 0]) rfl rfl (by omega) hc1 hc2 (heap_last _ _ _ (by simp))
  have b0 : Below w1.heap.size w1 ((((w1.alloc (.cells #[] 62)).alloc (.cells #[.int .i64 ((n : Int) - 1), .int .i64 0, .int .i64 0, .int .u8 (s[0].toNat : Int)] 62)).alloc (.cells (#[.int .i64 ((n : Int) - 1), .int .i64 0, .int .i64 0, .int .u8 (s[0].toNat : Int)] ++ Builtin.zeroCells #[.int .i64 0, .int .i64 0, .int .i64 0, .int .u8 0] (cc - 1)) 62)).drew) := ((((Below.refl _ _).alloc (Nat.le_refl _) _).alloc (by simp) _).alloc (by simp; omega) _).drew
  generalize hw2 : ((((w1.alloc (.cells #[] 62)).alloc (.cells #[.int .i64 ((n : Int) - 1), .int .i64 0, .int .i64 0, .int .u8 (s[0].toNat : Int)] 62)).alloc (.cells (#[.int .i64 ((n : Int) - 1), .int .i64 0, .int .i64 0, .int .u8 (s[0].toNat : Int)] ++ Builtin.zeroCells #[.int .i64 0, .int .i64 0, .int .i64 0, .int .u8 0] (cc - 1)) 62)).drew) = w2 at o0 b0 ⊢
  clear hw2
  have HR0 : rows (rowS (ringFs xs s) (bAt s)) 1 = [.int .i64 ((n : Int) - 1), .int .i64 0, .int .i64 0, .int .u8 (s[0].toNat : Int)] := by
    rw [rows_succ, rows_zero, List.nil_append]
    unfold rowS
    rw [ringFs_at (by rw [HL.out]; omega), bAt_get s 0 hs0]
    unfold ringFd fS
    simp only
    rw [HL.out, Nat.zero_add, Nat.mod_eq_of_lt (by omega), show ((n - 1 : Nat) : Int) = (n : Int) - 1 by omega]
    rfl
  rw [← HR0] at o0
  clear HR0
  obtain ⟨t, ht⟩ : ∃ t, s.extract 1 n = t := ⟨_, rfl⟩
  have HTS : Hid (t.size = n - 1) := by unfold Hid; rw [← ht, ← hs]; exact drop_one_size s
  have HT : Hid (∀ k (hk : k + 1 < s.size) (hk' : k < t.size), t[k] = s[k + 1]) := fun k hk hk' => by
    subst ht
    obtain ⟨q, e⟩ := drop_one_at s k hk
    subst hs
    exact e
  rw [ht]
  clear ht
  go_loopg [8, 10] n (fun q v i wr => ∃ (k : Nat) (A : Option Addr) (c : Nat), k + 1 ≤ n ∧ q = n - k ∧ i = .int .i64 k ∧ v = .slice A (k + 1) c ∧ Own wr w1.heap.size 62 4 A (k + 1) c (rows (rowS (ringFs xs s) (bAt s)) (k + 1)) ∧ Below w1.heap.size w1 wr)
  case atStart => exact ⟨0, _, _, by omega, rfl, rfl, rfl, o0, b0⟩
  case round =>
    obtain ⟨k, A, c, hk, hq, rfl, rfl, HO, hB1⟩ := hrel
    have HQ := Lib.hid hq
    clear hq
    by_cases hlt : k + 1 < n
    · have hks : k < t.size := by rw [HTS.out]; omega
      have hltI : (k : Int) + 1 < (n : Int) := by omega
      obtain ⟨bP, oP, rfl, hc⟩ := (o1.ints.below hB1).cells (by omega)
      have hpl := hc (k + 1) (by omega)
      rw [placesL_get xs (k + 1) (by rw [HL.out]; omega)] at hpl
      have hi1 : (k : Int) + 1 < (n : Int) + 1 := by omega
      have hi2 : (0 : Int) ≤ (k : Int) + 1 := by omega
      have hi3 : (k : Int) < (t.size : Int) := by omega
      have ht1 : ((k : Int) + 1).toNat = k + 1 := by omega
      have hw1 : IntKind.i64.wrap ((k : Int) + 1) = (k : Int) + 1 := IntWalk.i64_in _ (by omega)
      have hpc := o1.ints.le_cap
      have hq1 : k + 1 + 1 ≤ 9223372036854775807 := by omega
      have hq2 : (k + 1 + 1) * 32 ≤ 140737488355328 := by omega
      have hq3 : w1.heap.size ≤ wr.heap.size + 1 := by have := hB1.size; omega
      have HF := Lib.hid (show rows (rowS (ringFs xs s) (bAt s)) (k + 1 + 1) = rows (rowS (ringFs xs s) (bAt s)) (k + 1) ++ [.int .i64 k, .int .i64 ((k : Int) + 1), .int .i64 (alt (xs.take (k + 1))), .int .u8 (t[k].toNat : Int)] by
        rw [rows_succ _ (k + 1)]
        unfold rowS
        rw [ringFs_at (by rw [HL.out]; omega), bAt_get s (k + 1) (by omega), HT.out k (by omega) hks]
        unfold ringFd fS
        simp only
        rw [HL.out, show (k + 1 + n - 1) % n = k by rw [show k + 1 + n - 1 = k + n by omega, Nat.add_mod_right, Nat.mod_eq_of_lt (by omega)]]
        rfl)
      clear hc
      go_wp2_with fail
      go_region_law (refine step_append_cells tyFoldsS rfl (.tmp 33) (.tmp 46) rfl w1.heap.size A (k + 1) c _ (by simp [Act.eval]) (Own.below HO (((Below.refl _ _).alloc (Nat.le_refl _) _).drew)) (some ⟨wr.heap.size, 0, none⟩) 1 1 [.int .i64 k, .int .i64 ((k : Int) + 1), .int .i64 (alt (xs.take (k + 1))), .int .u8 (t[k].toNat : Int)] (by simp [Act.eval]) ⟨rfl, Nat.le_refl _, by unfold maxLen; omega, fun _ => ⟨_, 0, rfl, fun j u hu => by
          match j, hu with
          | 0, hu => cases hu; simp
          | 1, hu => cases hu; simp
          | 2, hu => cases hu; simp
          | 3, hu => cases hu; simp⟩⟩ (by intro u hu; simp only [List.mem_cons, List.not_mem_nil, or_false] at hu; rcases hu with rfl | rfl | rfl | rfl <;> rfl) hq1 hq2 (by simpa using hq3) ?_; intro A2 c2 w2 o2 g2 e2; have b2 := Below.appended ((hB1.alloc hB1.size _).drew) (by simpa using hq3) g2 (fun x hx => by rcases Own.form HO with ⟨e, _⟩ | ⟨g', e, hg', _⟩; (· rw [e] at hx; cases hx); (· rw [e] at hx; cases hx; exact hg')); clear e2)
      all_goals
        rw [← HF.out] at o2
        go_wp2_with fail
        go_roundg (n - (k + 1))
        case measure => have := HQ.out; omega
        case rel => exact ⟨k + 1, A2, c2, by omega, rfl, by go_num, rfl, o2, b2⟩
    · have hltI : ¬ (k : Int) + 1 < (n : Int) := by omega
      obtain rfl : n = k + 1 := by omega
      go_wp2_with fail
      go_ret
      exact ⟨_, _, rfl, Own.mono HO hz1, b1.trans (hB1.mono hz1)⟩

end Go.Proofs.Yteigbpmfjiofiaa
