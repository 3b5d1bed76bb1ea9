/-
  What impl's crimps hands back on a ring of linked creases.
-/
import Derived.Test.YteigbpmfjiofiabLink2
namespace Go.Proofs.Yteigbpmfjiofiab
open Go.RowKit

def cT (xs : List Int) (s : ByteArray) (m : Nat) : List Int := (upI m).filter fun i => decide (4 ≤ xs.length) && crimpAt xs s i.toNat
theorem cT_yes {xs : List Int} {s : ByteArray} {m : Nat} (h : (decide (4 ≤ xs.length) && crimpAt xs s m) = true) : cT xs s (m + 1) = cT xs s m ++ [(m : Int)] := by
  unfold cT
  rw [upI_succ, List.filter_append, List.filter_cons_of_pos (by simpa using h), List.filter_nil]
theorem cT_no {xs : List Int} {s : ByteArray} {m : Nat} (h : (decide (4 ≤ xs.length) && crimpAt xs s m) = false) : cT xs s (m + 1) = cT xs s m := by
  unfold cT
  rw [upI_succ, List.filter_append, List.filter_cons_of_neg (by simpa using h), List.filter_nil, List.append_nil]
theorem cT_all (xs : List Int) (s : ByteArray) : cT xs s xs.length = crimpsL xs s := by
  unfold cT crimpsL crimpsTo
  by_cases h : 4 ≤ xs.length
  · rw [if_pos h]; simp [h]
  · rw [if_neg h]; simp [h]

set_option maxRecDepth 100000 in
set_option maxHeartbeats 1000000 in
theorem impl_crimps (R k : Nat) (xs : List Int) (s : ByteArray) (w : World) (h : RingAt w R k xs s) (hl : xs.length = k) (hk : k ≤ 1048576) (h1 : 1 ≤ k) :
    Calls Try.prog 50 #[.pointer (some ⟨R, 0, none⟩)] w (RInts w (crimpsL xs s)) := by
  have HL := Lib.hid hl
  have m0 := cell_below ((Below.refl w.heap.size w).alloc (Nat.le_refl _) (.cells #[] 3)) h.first
  rw [if_neg (by omega)] at m0
  have HX := Lib.hid h
  clear h hl
  go_enter Try.func50, Try.ntmps50
  go_wp2_with fail
  go_loopw [3, 4, 5] (fun v o i wr => ∃ (m q : Nat) (A : Option Addr) (c : Nat), m ≤ k ∧ q ≤ m ∧ i = .int .i64 m ∧ o = .pointer (some ⟨R + 1 + m % k, 0, none⟩) ∧ v = .slice A q c ∧ OwnI wr w.heap.size A q c (cT xs s m) ∧ Below w.heap.size w wr) (fun _ _ i _ => k - (intOf i).toNat)
  case atStart => exact ⟨0, 0, _, _, Nat.zero_le _, Nat.le_refl _, rfl, by rw [Nat.zero_mod], rfl, OwnI.lit0 w (Nat.le_refl _), (Below.refl _ _).alloc (Nat.le_refl _) _⟩
  case round =>
    obtain ⟨m, q, A, c, hm, hq, rfl, rfl, rfl, HO, hB⟩ := hrel
    have HY := Lib.hid (HX.out.below hB)
    have c0 := HY.out.many
    have hbase := HO.base_le
    by_cases hlt : m < k
    · have hltI : (m : Int) < (k : Int) := by omega
      have e1 : m % k = m := Nat.mod_eq_of_lt hlt
      rw [e1]
      have PA := Lib.hid (impl_allowed R k m xs s wr HY.out HL.out hk hlt)
      have hn : (if m + 1 = k then 0 else m + 1) = (m + 1) % k := by
        by_cases e : m + 1 = k
        · rw [if_pos e, e, Nat.mod_self]
        · rw [if_neg e]; exact (Nat.mod_eq_of_lt (by omega)).symm
      go_wp2_with fail
      refine PA.out.mono ?_
      rintro e w2 ⟨rfl, b2⟩
      have c3 := (HY.out.below b2).next m hlt
      rw [hn] at c3
      have B2 := Below.call hB hB.size b2
      have HO2 := HO.below b2
      by_cases hcr : (decide (4 ≤ k) && crimpAt xs s m) = true
      · have HN := Lib.hid (cT_yes (xs := xs) (s := s) (m := m) (by rw [HL.out]; exact hcr))
        rw [hcr]
        clear c3 hcr
        go_wp2_with (at_builtin; (refine wpList_append_int tyInts rfl (.tmp 22) (.tmp 24) rfl w.heap.size A q c _ rfl (HO2.below ((Below.refl _ _).alloc (Nat.le_refl _) _)) w2.heap.size (m : Int) rfl (by simp) (by omega) (by have := B2.size; simp; omega) ?_); intro A5 c5 w5 o5 g5 e5; have b5 := Below.appended (B2.alloc B2.size _) (by have := B2.size; simp; omega) g5 hbase; have c3 := (HX.out.below b5).next m hlt; rw [hn] at c3; clear g5 e5)
        go_roundw
        case rel => exact ⟨m + 1, q + 1, A5, c5, by omega, by omega, by go_num, rfl, rfl, by rw [HN.out]; exact o5, b5⟩
        case measure => simp [intOf]; omega
      · have hcf : (decide (4 ≤ k) && crimpAt xs s m) = false := by simpa using hcr
        have HN := Lib.hid (cT_no (xs := xs) (s := s) (m := m) (by rw [HL.out]; exact hcf))
        rw [hcf]
        clear hcr hcf
        go_wp2_with fail
        go_roundw
        case rel => exact ⟨m + 1, q, A, c, by omega, by omega, by go_num, rfl, rfl, by rw [HN.out]; exact HO2, B2⟩
        case measure => simp [intOf]; omega
    · obtain rfl : m = k := by omega
      have HE : Hid (cT xs s m = crimpsL xs s) := by unfold Hid; rw [← HL.out]; exact cT_all xs s
      go_wp2_with fail
      go_ret
      rw [← HE.out]
      exact ⟨_, _, _, rfl, HO, hB⟩

end Go.Proofs.Yteigbpmfjiofiab
