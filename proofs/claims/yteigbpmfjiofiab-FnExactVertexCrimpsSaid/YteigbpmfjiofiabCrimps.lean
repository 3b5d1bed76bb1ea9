/-
  What the reference's l1Least and l1Crimps compute.
-/
import Derived.Test.YteigbpmfjiofiabPlainL
import Derived.Test.YteigbpmfjiofiabMem3
import Derived.Test.YteigbpmfjiofiabHelp
import Derived.Deep.QuietTactic
import Derived.BigQuiet
import Derived.IntWalk
namespace Go.Proofs.Yteigbpmfjiofiab
open Go.RowKit

/-- The least angle. -/
def leastL (xs : List Int) : Int := leastTo (xs[0]?.getD 0) xs
/-- Whether a crimp is allowed at an angle of a ring of at least four. -/
def crimpAt (xs : List Int) (s : ByteArray) (i : Nat) : Bool := (xs[i]?.getD 0 == leastL xs) && (bAt s i != bAt s ((i + 1) % xs.length))
def crimpsTo (xs : List Int) (s : ByteArray) (k : Nat) : List Int := (upI k).filter fun i => crimpAt xs s i.toNat
def crimpsL (xs : List Int) (s : ByteArray) : List Int := if 4 ≤ xs.length then crimpsTo xs s xs.length else []
theorem crimpsTo_zero (xs : List Int) (s : ByteArray) : crimpsTo xs s 0 = [] := rfl
theorem crimpsTo_yes {xs : List Int} {s : ByteArray} {k : Nat} (h : crimpAt xs s k = true) : crimpsTo xs s (k + 1) = crimpsTo xs s k ++ [(k : Int)] := by
  unfold crimpsTo
  rw [upI_succ, List.filter_append, List.filter_cons_of_pos (by simpa using h), List.filter_nil]
theorem crimpsTo_no {xs : List Int} {s : ByteArray} {k : Nat} (h : crimpAt xs s k = false) : crimpsTo xs s (k + 1) = crimpsTo xs s k := by
  unfold crimpsTo
  rw [upI_succ, List.filter_append, List.filter_cons_of_neg (by simp [h]), List.filter_nil, List.append_nil]
theorem crimpsTo_len (xs : List Int) (s : ByteArray) (k : Nat) : (crimpsTo xs s k).length ≤ k := by
  unfold crimpsTo
  refine Nat.le_trans (List.length_filter_le _ _) ?_
  rw [upI_length]; exact Nat.le_refl _
theorem crimpsTo_mem {xs : List Int} {s : ByteArray} {k : Nat} {x : Int} (h : x ∈ crimpsTo xs s k) : 0 ≤ x ∧ x < k := by
  unfold crimpsTo at h
  exact mem_upI.1 (List.mem_filter.1 h).1
theorem crimpsL_mem {xs : List Int} {s : ByteArray} {x : Int} (h : x ∈ crimpsL xs s) : 4 ≤ xs.length ∧ 0 ≤ x ∧ x < xs.length := by
  unfold crimpsL at h
  by_cases h4 : 4 ≤ xs.length
  · rw [if_pos h4] at h; exact ⟨h4, crimpsTo_mem h⟩
  · rw [if_neg h4] at h; cases h
theorem go_minL (x y : Int) : (if y < x then y else x) = min x y := by omega
theorem least_snoc {xs : List Int} {k : Nat} {s : Int} (h : k < xs.length) : leastTo s (xs.take (k + 1)) = min (leastTo s (xs.take k)) (xs[k]?.getD 0) := by
  rw [take_snocI xs k h, leastTo_snoc]

set_option maxHeartbeats 400000 in
theorem spec_l1Least (a : Option Addr) (n cap : Nat) (xs : List Int) (w : World) (h : Ints w a n cap xs) (h1 : 1 ≤ n) (hn : n ≤ 1048576) :
    Calls Try.prog 69 #[.slice a n cap] w fun e w' => e = .returned (.int .i64 (leastL xs)) ∧ w = w' := by
  have HL := Lib.hid h.length
  have hle := h.le_cap
  obtain ⟨b, off, rfl, hc⟩ := h.cells (by omega)
  have h0 := hc 0 (by omega)
  rw [Nat.add_zero] at h0
  have h0n : 0 < n := by omega
  have h0I : (0 : Int) < (n : Int) := by omega
  go_enter Try.func69, Try.ntmps69
  go_wp2
  go_loop [3, 4] (fun o i => ∃ k : Nat, k ≤ n ∧ i = .int .i64 k ∧ o = .int .i64 (leastTo (xs[0]?.getD 0) (xs.take k))) (fun _ i => n - (intOf i).toNat)
  case atStart => exact ⟨0, Nat.zero_le _, rfl, rfl⟩
  case round =>
    obtain ⟨k, hk, rfl, rfl⟩ := hrel
    by_cases hlt : k < n
    · have hck := hc k hlt
      have HS := Lib.hid (least_snoc (s := xs[0]?.getD 0) (show k < xs.length by rw [HL.out]; exact hlt))
      clear h0
      go_wp2
      go_round
      case rel => exact ⟨k + 1, by omega, by go_num, by rw [HS.out, ← go_minL]⟩
      case measure => simp [intOf]; omega
    · have HE : Hid (leastTo (xs[0]?.getD 0) (xs.take k) = leastL xs) := by unfold Hid leastL; rw [take_allI xs k (by rw [HL.out]; omega)]
      go_wp2
      go_ret
      refine ⟨?_, rfl⟩
      rw [HE.out]
      rfl

set_option maxRecDepth 100000 in
set_option maxHeartbeats 2000000 in
theorem spec_l1Crimps (a : Option Addr) (n cap : Nat) (xs : List Int) (s : ByteArray) (w : World) (h : Ints w a n cap xs) (hn : n ≤ 1048576) (hs : s.size = n) :
    Calls Try.prog 46 #[.slice a n cap, .string s] w (RInts w (crimpsL xs s)) := by
  have HL := Lib.hid h.length
  have hle := h.le_cap
  have hmx := h.cap_max
  by_cases h4 : 4 ≤ n
  · have HE : Hid (crimpsL xs s = crimpsTo xs s n) := by unfold Hid crimpsL; rw [HL.out, if_pos h4]
    have h4I : (4 : Int) ≤ (n : Int) := by omega
    have hnz : ¬ (n : Int) = 0 := by omega
    have HX := Lib.hid h
    clear h
    go_enter Try.func46, Try.ntmps46
    go_wp2_with fail
    go_loopw [5, 7] (fun v i wr => ∃ (k q : Nat) (A : Option Addr) (c : Nat), k ≤ n ∧ q ≤ k ∧ i = .int .i64 k ∧ v = .slice A q c ∧ OwnI wr w.heap.size A q c (crimpsTo xs s k) ∧ Below w.heap.size w wr) (fun _ i _ => n - (intOf i).toNat)
    case atStart => exact ⟨0, 0, _, _, Nat.zero_le _, Nat.le_refl _, rfl, rfl, OwnI.lit0 w (Nat.le_refl _), (Below.refl _ _).alloc (Nat.le_refl _) _⟩
    case round =>
      obtain ⟨k, q, A, c, hk, hq, rfl, rfl, HO, hB⟩ := hrel
      by_cases hlt : k < n
      · have hXr := HX.out.below hB
        have PL : Hid (∀ m : Nat, Calls Try.prog 69 #[.slice a n cap] (wr.drewN m) fun e w' => e = .returned (.int .i64 (leastL xs)) ∧ w' = wr.drewN m) := fun m =>
          (spec_l1Least a n cap xs (wr.drewN m) (hXr.below (below_drewN (Below.refl _ _) m)) (by omega) hn).mono fun _ _ h => ⟨h.1, h.2.symm⟩
        obtain ⟨b, off, ea, hc⟩ := hXr.cells (by omega)
        subst ea
        have hck := hc k hlt
        clear hc
        have hltI : (k : Int) < (n : Int) := by omega
        have hw1 : IntKind.i64.wrap ((k : Int) + 1) = (k : Int) + 1 := IntWalk.i64_in _ (by omega)
        obtain ⟨r, hr⟩ : ∃ r, (k + 1) % n = r := ⟨_, rfl⟩
        have hrn : r < n := by rw [← hr]; exact Nat.mod_lt _ (by omega)
        have hm1 : ((k : Int) + 1).tmod (n : Int) = (r : Int) := by rw [Int.tmod_eq_emod_of_nonneg (by omega), ← hr]; rfl
        have hm2 : ((k : Int) + 1) % (n : Int) = (r : Int) := by rw [← hr]; rfl
        have hw2 : IntKind.i64.wrap (r : Int) = (r : Int) := IntWalk.i64_in _ (by omega)
        have hw3 : IntKind.i64.wrap (((k : Int) + 1).tmod (n : Int)) = (r : Int) := by rw [hm1]; exact hw2
        have hnz2 : ((n : Int) == 0) = false := by rw [beq_eq_false_iff_ne]; omega
        have hnz3 : ¬ n = 0 := by omega
        have hks : k < s.size := by omega
        have hrs : r < s.size := by omega
        have hksI : (k : Int) < (s.size : Int) := by omega
        have hrsI : (r : Int) < (s.size : Int) := by omega
        have HC : Hid (crimpAt xs s k = ((xs[k]?.getD 0 == leastL xs) && (s[k] != s[r]))) := by
          unfold Hid crimpAt
          rw [HL.out, hr, bAt_get s k hks, bAt_get s r hrs]
        generalize xs[k]?.getD 0 = X at hck HC
        by_cases hX : X = leastL xs
        · have hXb : (X == leastL xs) = true := by rw [beq_iff_eq]; exact hX
          by_cases hs2 : s[k] = s[r]
          · have hsb : ((s[k].toNat : Int) != (s[r].toNat : Int)) = false := by rw [hs2]; simp
            have HN := Lib.hid (crimpsTo_no (HC.out.trans (by rw [hXb, hs2]; simp)))
            clear hs2
            go_wp2_with fail
            go_quiet ((go_at_call 69; exact Calls.quiet_of_same (PL.out _)))
            go_wp2_with fail
            go_roundw
            case rel => exact ⟨k + 1, q, A, c, by omega, by omega, by go_num, rfl, by rw [HN.out]; exact HO.below (below_drewN (Below.refl _ _) _), below_drewN hB _⟩
            case measure => simp [intOf]; omega
          · have hsn : ¬ (s[k].toNat : Int) = (s[r].toNat : Int) := fun e => hs2 (UInt8.toNat_inj.1 (by omega))
            have hsb : ((s[k].toNat : Int) != (s[r].toNat : Int)) = true := by rw [bne_iff_ne]; exact hsn
            have HN := Lib.hid (crimpsTo_yes (HC.out.trans (by rw [hXb, bne_iff_ne.2 hs2]; rfl)))
            clear hs2
            go_wp2_with fail
            go_quiet ((go_at_call 69; exact Calls.quiet_of_same (PL.out _)))
            have hBd := below_drewN hB nq
            have HOd := HO.below (below_drewN (Below.refl _ _) nq)
            generalize wr.drewN nq = wq at hBd HOd ⊢
            go_wp2_with (at_builtin; (refine wpList_append_int tyInts rfl (.tmp 39) (.tmp 41) rfl w.heap.size A q c _ rfl (HOd.below ((Below.refl _ _).alloc (Nat.le_refl _) _)) wq.heap.size (k : Int) rfl (by simp) (by omega) (by have := hBd.size; simp; omega) ?_); intro A2 c2 w2 o2 g2 e2; have b2 := Below.appended (hBd.alloc hBd.size _) (by have := hBd.size; simp; omega) g2 HO.base_le; clear g2 e2)
            go_roundw
            case rel => exact ⟨k + 1, q + 1, A2, c2, by omega, by omega, by go_num, rfl, by rw [HN.out]; exact o2, b2⟩
            case measure => simp [intOf]; omega
        · have hXb : (X == leastL xs) = false := by rw [beq_eq_false_iff_ne]; exact hX
          have HN := Lib.hid (crimpsTo_no (HC.out.trans (by rw [hXb]; rfl)))
          go_wp2_with fail
          go_quiet ((go_at_call 69; exact Calls.quiet_of_same (PL.out _)))
          go_wp2_with fail
          go_roundw
          case rel => exact ⟨k + 1, q, A, c, by omega, by omega, by go_num, rfl, by rw [HN.out]; exact HO.below (below_drewN (Below.refl _ _) _), below_drewN hB _⟩
          case measure => simp [intOf]; omega
      · obtain rfl : k = n := by omega
        go_wp2_with fail
        go_ret
        rw [HE.out]
        exact ⟨_, _, _, rfl, HO, hB⟩
  · have HE : Hid (crimpsL xs s = []) := by unfold Hid crimpsL; rw [HL.out, if_neg h4]
    have h4I : ¬ (4 : Int) ≤ (n : Int) := by omega
    have h4J : (n : Int) < 4 := by omega
    go_enter Try.func46, Try.ntmps46
    go_wp2_with fail
    go_loopw [5, 7] (fun v i wr => v = .slice (some ⟨w.heap.size, 0, none⟩) 0 0 ∧ i = .int .i64 0 ∧ wr = w.alloc (.cells #[] 3)) (fun _ _ _ => 0)
    case atStart => exact ⟨rfl, rfl, rfl⟩
    case round =>
      obtain ⟨rfl, rfl, rfl⟩ := hrel
      go_wp2_with fail
      all_goals
        go_ret
        rw [HE.out]
        exact ⟨_, _, _, rfl, OwnI.lit0 w (Nat.le_refl _), (Below.refl _ _).alloc (Nat.le_refl _) _⟩

end Go.Proofs.Yteigbpmfjiofiab
