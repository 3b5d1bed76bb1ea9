/-
  What StampFolds computes, in the reference and in the program, by a walk through each.
-/
import Derived.Test.YtcdgnbhmijeeiaaStampS
import Derived.Test.YtcdgnbhmijeeiaaPlainG
import Derived.Test.YtcdgnbhmijeeiaaBytes
import Derived.RegionTactic
namespace Go.Proofs.Ytcdgnbhmijeeiaa
open Go.RowKit

theorem mod2_beq (k : Nat) : ((k : Int) % 2 == 0) = decide (k % 2 = 0) := by
  rw [beq_dec, decide_eq_decide]
  omega

theorem impl_StampFolds_no (a : Option Addr) (n cap : Nat) (xs : List Int) (w : World) (h : Ints w a n cap xs) (hv : possB xs = false) :
    Calls Try.prog 55 #[.slice a n cap] w (RVal w (.tuple #[.string ⟨#[]⟩, .bool false])) := by
  have H1 := impl_StampPossible a n cap xs w h
  rw [hv] at H1
  have H1 := Lib.hid H1
  clear hv
  go_enter Try.func55, Try.ntmps55
  go_wp2_with (go_at_call 49; refine H1.out.mono ?_; rintro e w1 ⟨rfl, b1⟩)
  go_ret2
  exact ⟨rfl, b1⟩

/-- make([]byte, n). -/
theorem wpList_make_bytes' {w : World} {ops : Array Oper} {rest : List Oper} {o : Oper} {a : Act} {Q : Exit → Act → World → Prop}
    (hg : o.guard = none) (l c : Operand) (hop : o.op = Op.makeSlice 22 l c) (L C : Int) (n : Nat) (hl : a.eval l = .int .i64 L) (hc : a.eval c = .int .i64 C) (hL : L = (n : Int)) (hC : C = (n : Int))
    (b2 : n ≤ 2000000)
    (hK : ∀ w', RowB w' w.heap.size n (List.replicate n 0) → w.grownBy w' none → wpList Try.prog ops Q rest (a.put o.dst (.slice (some ⟨w.heap.size, 0, none⟩) n n)) w') :
    wpList Try.prog ops Q (o :: rest) a w := by
  refine wpList_make (⟨Try.underlying22, info_parts (by kernel_rfl), rfl, by omega⟩ : ElemTy Try.prog 22 5 1 1 (.int .u8 0)) hg l c hop w.heap.size L C n hl hc hL hC (by omega) (by unfold maxLen; omega) (Nat.le_refl _) fun w' h1 h2 => hK w' ?_ h2
  have h3 := h1
  rw [show (Value.int IntKind.u8 0).cells = #[Value.int .u8 0] from rfl, Nat.mul_one, toList_madeCells_one] at h3
  refine RowB.of_own (base := w.heap.size) (cap := n) (e := 5) ?_
  rw [List.map_replicate]
  exact h3

set_option maxHeartbeats 2000000 in
theorem impl_StampFolds_yes (a : Option Addr) (n cap : Nat) (xs : List Int) (w : World) (h : Ints w a n cap xs) (hv : possB xs = true) :
    Calls Try.prog 55 #[.slice a n cap] w (RVal w (.tuple #[.string (stampFolds xs), .bool true])) := by
  have H1 := impl_StampPossible a n cap xs w h
  have hl := possB_len hv
  rw [h.length] at hl
  obtain ⟨hl1, hl2⟩ := hl
  have hpm := possB_perm hv
  rw [hv] at H1
  have H1 := Lib.hid H1
  have H2 := fun W (hW : Ints W a n cap xs) => impl_levelsOf a n cap xs W hW (by omega)
  rw [hpm, levOr_yes hpm] at H2
  have H2 := Lib.hid H2
  have hk := levelsL_length xs
  rw [h.length] at hk
  have HK := Lib.hid hk
  have HF : Hid (stampFolds xs = sfTo (levelsL xs) (n - 1)) := by unfold Hid stampFolds; rw [h.length]
  have HI := Lib.hid h
  have hle := h.le_cap
  clear hv hk hpm
  go_enter Try.func55, Try.ntmps55
  go_wp2_with (first | (go_at_call 49; refine H1.out.mono ?_; rintro e w1 ⟨rfl, b1⟩) | (go_at_call 87; refine (H2.out w1 (HI.out.below b1)).mono ?_; rintro e w2 ⟨a1, n1, c1, rfl, o1, b2⟩; obtain rfl : n = n1 := HK.out.symm.trans o1.length) | (at_make; refine wpList_make_bytes' rfl (.tmp 20) (.tmp 20) rfl _ _ (n - 1) rfl rfl (by omega) (by omega) (by omega) ?_; intro w3 hrow hg))
  have hle1 := o1.ints.le_cap
  have b3 := Below.call b1 b1.size b2
  have hB : Below w2.heap.size w2 w3 := (Below.refl _ _).grown hg (Nat.le_refl _) (by simp)
  clear hg
  go_loopw [24] (fun i wr => ∃ k : Nat, k ≤ n - 1 ∧ i = .int .i64 k ∧ RowB wr w2.heap.size (n - 1) (sfNums (levelsL xs) (n - 1) k) ∧ Below w2.heap.size w2 wr) (fun i _ => n - (intOf i).toNat)
  case atStart => exact ⟨0, Nat.zero_le _, rfl, by rw [sfNums_zero]; exact hrow, hB⟩
  case round =>
    obtain ⟨k, hk, rfl, HR, hB⟩ := hrel
    by_cases hlt : k < n - 1
    · obtain ⟨b, off, rfl, hc⟩ := (o1.ints.below hB).cells (by omega)
      have c1 := hc k (by omega)
      have c2 := hc (k + 1) (by omega)
      clear hc
      have hbo : b < w2.heap.size := by
        obtain ⟨b', off', e, hc⟩ := o1.ints.cells (by omega)
        have h0 := World.block_lt_of_cell? _ _ (hc 0 (by omega))
        cases e
        exact h0
      have hbne : ¬ w2.heap.size = b := by omega
      have hrk := HR.cell k hlt
      have hfk := HR.free k hlt
      have HS := Lib.hid (sfNums_set (levelsL xs) (n - 1) k hlt)
      have HS2 := Lib.hid (fun x => sfNums_set2 (levelsL xs) (n - 1) k x hlt)
      have HV : Hid ((decide ((levelsL xs)[k]?.getD 0 < (levelsL xs)[k + 1]?.getD 0) == ((k : Int) % 2 == 0)) = true → sfB (levelsL xs) k = 86) := fun q => sfB_V (by rw [beq_iff_eq, mod2_beq] at q; exact q)
      have HM : Hid ((decide ((levelsL xs)[k]?.getD 0 < (levelsL xs)[k + 1]?.getD 0) == ((k : Int) % 2 == 0)) = false → sfB (levelsL xs) k = 77) := fun q => sfB_M (by rw [beq_eq_false_iff_ne, mod2_beq] at q; exact q)
      generalize (levelsL xs)[k]?.getD 0 = A at c1 HV HM
      generalize (levelsL xs)[k + 1]?.getD 0 = B at c2 HV HM
      have HR1 := HR.stored k 77
      have hB1 := hB.setCell (p := ⟨w2.heap.size, k, none⟩) (Nat.le_refl _) (.int .u8 77)
      have d1 := (World.cell_setCell_ne wr ⟨w2.heap.size, k, none⟩ ⟨b, off + k, none⟩ (.int .u8 77) (Nat.ne_of_lt hbo)).trans c1
      have d2 := (World.cell_setCell_ne wr ⟨w2.heap.size, k, none⟩ ⟨b, off + (k + 1), none⟩ (.int .u8 77) (Nat.ne_of_lt hbo)).trans c2
      have d3 := HR1.cell k hlt
      have d4 := HR1.free k hlt
      go_wp2
      have hi1 : (k : Int) < n := by omega
      have hi2 : (k : Int) + 1 < n := by omega
      have z1 : 0 ≤ (k : Int) + 1 := by omega
      have t1 : ((k : Int) + 1).toNat = k + 1 := by omega
      have w9 : IntKind.i64.wrap ((k : Int) + 1) = (k : Int) + 1 := IntWalk.i64_in _ (by omega)
      go_quiet (fail)
      clear z1 t1 w9 hi1 hi2
      cases hq : (decide (A < B) == ((k : Int) % 2 == 0)) with
      | true =>
        have HQ := Lib.hid (HV.out hq)
        clear HV HM
        go_wp2
        go_roundw
        case rel => exact ⟨k + 1, by omega, by go_num, by have t := (HR1.below (below_drewN (Below.refl _ _) nq)).stored k 86; have e := HS2.out 77; rw [HQ.out] at e; rw [← e]; exact t, (below_drewN hB1 nq).setCell (p := ⟨w2.heap.size, k, none⟩) (Nat.le_refl _) _⟩
        case measure => simp [intOf]; omega
      | false =>
        have HQ := Lib.hid (HM.out hq)
        clear HV HM
        go_wp2
        go_roundw
        case rel => exact ⟨k + 1, by omega, by go_num, by have t := HR1.below (below_drewN (Below.refl _ _) nq); have e := HS.out; rw [HQ.out] at e; rw [← e]; exact t, below_drewN hB1 nq⟩
        case measure => simp [intOf]; omega
    · go_wp2_with (refine wpList_to_string rfl _ _ _ 5 rfl Try.underlying22 Try.underlying9 Try.underlying5 w2.heap.size (n - 1) (n - 1) _ rfl HR ?_)
      go_ret2
      refine ⟨?_, b3.trans (hB.mono b3.size)⟩
      show Ending.returned (.tuple #[.string (strOfNums (sfNums (levelsL xs) (n - 1) k)), .bool true]) = _
      rw [HF.out, ← sfNums_all (levelsL xs) (n - 1) k (by omega) hk]
      rfl

end Go.Proofs.Ytcdgnbhmijeeiaa
