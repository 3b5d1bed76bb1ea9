/-
  What slices.Compare computes at two lists of one length, by a walk.
-/
import Derived.Test.YthlgagngeedgjaaAll4
namespace Go.Proofs.Ythlgagngeedgjaa
open Go.RowKit

/-- What Compare answers. -/
def cmpL (xs ys : List Int) : Int := if lexB xs ys then -1 else if lexB ys xs then 1 else 0
theorem cmpL_neg (xs ys : List Int) : cmpL xs ys < 0 ↔ lexB xs ys = true := by
  unfold cmpL
  by_cases h : lexB xs ys = true
  · rw [if_pos h]; simp [h]
  · rw [if_neg h]; split <;> simp [h]
theorem lexB_asymm {xs ys : List Int} (h : lexB xs ys = true) : lexB ys xs = false := by
  cases h2 : lexB ys xs with
  | false => rfl
  | true => have := lexB_trans h h2; rw [lexB_irrefl] at this; cases this
theorem cmpL_pos (xs ys : List Int) : 0 < cmpL xs ys ↔ lexB ys xs = true := by
  unfold cmpL
  by_cases h : lexB xs ys = true
  · rw [if_pos h, lexB_asymm h]; simp
  · rw [if_neg h]; split <;> simp_all
theorem cmpL_bd (xs ys : List Int) : -1 ≤ cmpL xs ys ∧ cmpL xs ys ≤ 1 := by
  unfold cmpL
  split
  · omega
  · split <;> omega
theorem cmpL_same (xs : List Int) : cmpL xs xs = 0 := by unfold cmpL; rw [lexB_irrefl]; rfl
theorem cmpL_lt {xs ys : List Int} {k : Nat} (hk : k < xs.length) (hk' : k < ys.length) (ht : xs.take k = ys.take k) (hlt : xs[k]?.getD 0 < ys[k]?.getD 0) : cmpL xs ys = -1 := by
  unfold cmpL
  rw [lexB_at hk hk' ht (by omega), decide_eq_true hlt]
  rfl
theorem cmpL_gt {xs ys : List Int} {k : Nat} (hk : k < xs.length) (hk' : k < ys.length) (ht : xs.take k = ys.take k) (hlt : ys[k]?.getD 0 < xs[k]?.getD 0) : cmpL xs ys = 1 := by
  unfold cmpL
  rw [lexB_at hk hk' ht (by omega), lexB_at hk' hk ht.symm (by omega), decide_eq_false (by omega), decide_eq_true hlt]
  rfl

theorem lib_isNaN (x : Int) (w : World) : Calls Try.prog 125 #[.int .i64 x] w fun e w' => e = .returned (.bool false) ∧ w = w' := by
  go_enter Try.func125, Try.ntmps125
  go_wp2
  go_ret
  exact ⟨rfl, rfl⟩
theorem lib_cmp_lt (x y : Int) (w : World) (h : x < y) : Calls Try.prog 103 #[.int .i64 x, .int .i64 y] w fun e w' => e = .returned (.int .i64 (-1)) ∧ w = w' := by
  go_enter Try.func103, Try.ntmps103
  go_wp2_with (go_at_call 125; refine (lib_isNaN _ _).mono ?_; rintro e w' ⟨rfl, rfl⟩)
  go_ret
  exact ⟨rfl, rfl⟩
theorem lib_cmp_gt (x y : Int) (w : World) (h : y < x) : Calls Try.prog 103 #[.int .i64 x, .int .i64 y] w fun e w' => e = .returned (.int .i64 1) ∧ w = w' := by
  have h2 : ¬ x < y := by omega
  go_enter Try.func103, Try.ntmps103
  go_wp2_with (go_at_call 125; refine (lib_isNaN _ _).mono ?_; rintro e w' ⟨rfl, rfl⟩)
  go_ret
  exact ⟨rfl, rfl⟩
theorem lib_cmp_eq (x : Int) (w : World) : Calls Try.prog 103 #[.int .i64 x, .int .i64 x] w fun e w' => e = .returned (.int .i64 0) ∧ w = w' := by
  go_enter Try.func103, Try.ntmps103
  go_wp2_with (go_at_call 125; refine (lib_isNaN _ _).mono ?_; rintro e w' ⟨rfl, rfl⟩)
  go_ret
  exact ⟨rfl, rfl⟩

set_option maxHeartbeats 1000000 in
theorem lib_Compare (a a' : Option Addr) (n cap cap' : Nat) (xs ys : List Int) (w : World) (h : Ints w a n cap xs) (h' : Ints w a' n cap' ys) (hn : n ≤ 1048576) :
    Calls Try.prog 64 #[.slice a n cap, .slice a' n cap'] w fun e w' => e = .returned (.int .i64 (cmpL xs ys)) ∧ w = w' := by
  have H := Lib.hid h.length
  have H' := Lib.hid h'.length
  have hle := h.le_cap
  have hle' := h'.le_cap
  go_enter Try.func64, Try.ntmps64
  go_wp2
  go_loop [5, 6, 7, 8, 11] (fun _ _ _ _ i => ∃ k : Nat, k ≤ n ∧ i = .int .i64 k ∧ Hid (xs.take k = ys.take k)) (fun _ _ _ _ i => n - (intOf i).toNat)
  case atStart => exact ⟨0, Nat.zero_le _, rfl, rfl⟩
  case round =>
    obtain ⟨k, hk, rfl, HT⟩ := hrel
    by_cases hlt : k < n
    · obtain ⟨b, off, rfl, hc⟩ := h.cells (by omega)
      obtain ⟨b', off', rfl, hc'⟩ := h'.cells (by omega)
      have c1 := hc k hlt
      have c2 := hc' k hlt
      clear hc hc'
      by_cases he : xs[k]?.getD 0 = ys[k]?.getD 0
      · have HT1 : Hid (xs.take (k + 1) = ys.take (k + 1)) := by
          unfold Hid
          rw [take_snocI xs k (by rw [H.out]; exact hlt), take_snocI ys k (by rw [H'.out]; exact hlt), HT.out, he]
        rw [← he] at c2
        clear he HT
        go_wp2_with (go_at_call 103; refine (lib_cmp_eq _ _).mono ?_; rintro e w' ⟨rfl, rfl⟩)
        go_round
        case rel => exact ⟨k + 1, by omega, by go_num, HT1⟩
        case measure => simp [intOf]; omega
      · by_cases hl : xs[k]?.getD 0 < ys[k]?.getD 0
        · have HL := Lib.hid (cmpL_lt (by rw [H.out]; exact hlt) (by rw [H'.out]; exact hlt) HT.out hl)
          clear he HT
          go_wp2_with (go_at_call 103; refine (lib_cmp_lt _ _ _ hl).mono ?_; rintro e w' ⟨rfl, rfl⟩)
          go_ret
          exact ⟨ret_int HL.out.symm, rfl⟩
        · have hg : ys[k]?.getD 0 < xs[k]?.getD 0 := by omega
          have HL := Lib.hid (cmpL_gt (by rw [H.out]; exact hlt) (by rw [H'.out]; exact hlt) HT.out hg)
          clear he HT hl
          go_wp2_with (go_at_call 103; refine (lib_cmp_gt _ _ _ hg).mono ?_; rintro e w' ⟨rfl, rfl⟩)
          go_ret
          exact ⟨ret_int HL.out.symm, rfl⟩
    · have HE : Hid (xs = ys) := by
        have := HT.out
        rwa [take_allI xs k (by rw [H.out]; omega), take_allI ys k (by rw [H'.out]; omega)] at this
      go_wp2
      go_ret
      exact ⟨ret_int (by rw [HE.out, cmpL_same]), rfl⟩

end Go.Proofs.Ythlgagngeedgjaa
