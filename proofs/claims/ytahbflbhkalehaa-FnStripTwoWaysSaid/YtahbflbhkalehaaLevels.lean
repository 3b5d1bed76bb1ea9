/-
  What levelsOf, isBetween and l2Levels compute, by a walk through each.
-/
import Derived.Test.YtahbflbhkalehaaTurn
import Derived.Test.YtahbflbhkalehaaMem3
import Derived.Test.YtahbflbhkalehaaPlainP
namespace Go.Proofs.Ytahbflbhkalehaa
open Go.RowKit

/-- What levelsOf answers. -/
def levOr (xs : List Int) : List Int := if permB xs then levelsL xs else []
theorem levOr_yes {xs : List Int} (h : permB xs = true) : levOr xs = levelsL xs := by unfold levOr; rw [if_pos h]
theorem levOr_no {xs : List Int} (h : permB xs = false) : levOr xs = [] := by unfold levOr; rw [if_neg (by rw [h]; simp)]
theorem OwnI.nil' (w : World) (base : Nat) : OwnI w base none 0 0 [] := World.ownsRow_nil w base _ _

set_option maxHeartbeats 1000000 in
theorem impl_levelsOf (a : Option Addr) (n cap : Nat) (xs : List Int) (w : World) (h : Ints w a n cap xs) (hn : n ≤ 1048576) :
    Calls Try.prog 37 #[.slice a n cap, .int .i64 n] w (RIntsB w (levOr xs) (permB xs)) := by
  obtain ⟨N, hN⟩ : ∃ N : Int, N = (n : Int) := ⟨_, rfl⟩
  rw [← hN]
  have H := Lib.hid h.length
  have hle := h.le_cap
  have hne : ((n : Int) != N) = false := by rw [hN]; simp
  have hN1 : N ≤ n := by omega
  have hN2 : (n : Int) ≤ N := by omega
  have HN := Lib.hid hN
  clear hN
  go_enter Try.func37, Try.ntmps37
  go_wp2_with (at_make; refine wpList_make_ints tyInts rfl _ _ rfl w.heap.size _ _ n rfl rfl HN.out HN.out (by omega) (Nat.le_refl _) ?_; intro w1 hown hg)
  have hB : Below w.heap.size w w1 := (Below.refl _ _).grown hg (Nat.le_refl _) (by simp)
  clear hg
  go_loopw [18] (fun i wr => ∃ k : Nat, k ≤ n ∧ i = .int .i64 k ∧ OwnI wr w.heap.size (some ⟨w.heap.size, 0, none⟩) n n (List.replicate k (-1) ++ List.replicate (n - k) 0) ∧ Below w.heap.size w wr) (fun i _ => n - (intOf i).toNat)
  case atStart => exact ⟨0, Nat.zero_le _, rfl, by simpa using hown, hB⟩
  case round =>
    obtain ⟨k, hk, rfl, HO, hBr⟩ := hrel
    by_cases hlt : k < n
    · have hgk := HO.cell hlt
      have hfk := HO.frozen k
      have HS : Hid ((List.replicate k (-1 : Int) ++ List.replicate (n - k) 0).set k (-1) = List.replicate (k + 1) (-1) ++ List.replicate (n - (k + 1)) 0) := by
        unfold Hid
        apply List.ext_getElem?
        intro j
        grind
      go_wp2
      go_roundw
      case rel => exact ⟨k + 1, by omega, by go_num, by have := HO.stored k (-1); rwa [HS.out] at this, hBr.setCell (p := ⟨w.heap.size, k, none⟩) (Nat.le_refl _) _⟩
      case measure => simp [intOf]; omega
    · have HO1 : OwnI wr w.heap.size (some ⟨w.heap.size, 0, none⟩) n n (lvTo xs n 0) := by
        have h1 := HO
        rwa [show n - k = 0 by omega, show k = n by omega, List.replicate_zero, List.append_nil, ← lvTo_zero xs n] at h1
      clear HO
      obtain ⟨wo, rfl⟩ : ∃ wo : World, wo = wr := ⟨_, rfl⟩
      go_wp2
      go_loopw [27] (fun i wr => ∃ k : Nat, k ≤ n ∧ i = .int .i64 k ∧ Hid (okTo xs k) ∧ OwnI wr w.heap.size (some ⟨w.heap.size, 0, none⟩) n n (lvTo xs n k) ∧ Below w.heap.size w wr) (fun i _ => n - (intOf i).toNat)
      case atStart => exact ⟨0, Nat.zero_le _, rfl, okTo_zero xs, HO1, hBr⟩
      case round =>
        obtain ⟨m, hm, rfl, HK, HO, hB2⟩ := hrel
        by_cases hlt2 : m < n
        · obtain ⟨b, off, rfl, hc⟩ := (h.below hB2).cells (by omega)
          have hck := hc m hlt2
          clear hc
          by_cases h0 : 0 ≤ xs[m]?.getD 0
          · by_cases h1 : xs[m]?.getD 0 < n
            · obtain ⟨x, hx⟩ := Int.eq_ofNat_of_zero_le h0
              have hxn : x < n := by omega
              have hgx := HO.cell hxn
              have hfx := HO.frozen x
              rw [lvTo_get xs n m x hxn] at hgx
              rw [hx] at hck
              by_cases hin : (x : Int) ∈ xs.take m
              · rw [if_pos hin] at hgx
                have HF : Hid (permB xs = false) := permB_twice (by rw [H.out]; exact hlt2) (by rw [hx]; exact hin)
                have hl0 : 0 ≤ lvl xs x := by unfold lvl; omega
                have HX := Lib.hid hx
                clear hx hin
                go_wp2
                go_ret2
                rw [HF.out, levOr_no HF.out]
                exact ⟨_, _, _, rfl, OwnI.nil' _ _, hB2⟩
              · rw [if_neg hin] at hgx
                have HS := Lib.hid (lvTo_set (n := n) (by rw [H.out]; exact hlt2) hx hxn hin)
                have HK1 : Hid (okTo xs (m + 1)) := okTo_succ HK.out (by rw [H.out, hx]; omega) (by rw [hx]; exact hin)
                have HX := Lib.hid hx
                clear hx hin HK
                go_wp2
                go_roundw
                case rel => exact ⟨m + 1, by omega, by go_num, HK1, by have := HO.stored x (m : Int); rwa [HS.out] at this, hB2.setCell (p := ⟨w.heap.size, x, none⟩) (Nat.le_refl _) _⟩
                case measure => simp [intOf]; omega
            · have HF : Hid (permB xs = false) := permB_out (k := m) (by rw [H.out]; exact hlt2) (by rw [H.out]; omega)
              go_wp2
              go_ret2
              rw [HF.out, levOr_no HF.out]
              exact ⟨_, _, _, rfl, OwnI.nil' _ _, hB2⟩
          · have HF : Hid (permB xs = false) := permB_out (k := m) (by rw [H.out]; exact hlt2) (by omega)
            go_wp2
            go_ret2
            rw [HF.out, levOr_no HF.out]
            exact ⟨_, _, _, rfl, OwnI.nil' _ _, hB2⟩
        · have hmn : m = xs.length := by rw [H.out]; omega
          have HP : Hid (permB xs = true) := permB_ok (by have := HK.out; rwa [hmn] at this)
          have HL : Hid (lvTo xs n m = levelsL xs) := by
            have := lvTo_all hmn HK.out
            rw [H.out] at this
            exact this
          clear hmn
          go_wp2
          go_ret2
          rw [HP.out, levOr_yes HP.out]
          rw [HL.out] at HO
          exact ⟨_, _, _, rfl, HO, hB2⟩

theorem impl_levelsOf_other (a : Option Addr) (n cap : Nat) (m : Int) (w : World) (h : (n : Int) ≠ m) :
    Calls Try.prog 37 #[.slice a n cap, .int .i64 m] w (RIntsB w [] false) := by
  have hne : ((n : Int) != m) = true := by rw [bne_iff_ne]; exact h
  clear h
  go_enter Try.func37, Try.ntmps37
  go_wp2
  go_ret2
  exact ⟨_, _, _, rfl, OwnI.nil' _ _, Below.refl _ _⟩

theorem impl_isBetween (l x y : Int) (w : World) :
    Calls Try.prog 38 #[.int .i64 l, .int .i64 x, .int .i64 y] w fun e w' => e = .returned (.bool (betw l x y)) ∧ w = w' := by
  by_cases h1 : y < x
  · by_cases h2 : y < l
    · by_cases h3 : x < y
      · omega
      · go_enter Try.func38, Try.ntmps38
        go_wp2
        go_ret
        exact ⟨ret_bool (by unfold betw; rw [Int.min_eq_right (by omega), Int.max_eq_left (by omega)]; simp [h2]), rfl⟩
    · go_enter Try.func38, Try.ntmps38
      go_wp2
      go_ret
      exact ⟨ret_bool (by unfold betw; rw [Int.min_eq_right (by omega)]; simp; omega), rfl⟩
  · by_cases h2 : x < l
    · by_cases h3 : x < y
      · go_enter Try.func38, Try.ntmps38
        go_wp2
        go_ret
        exact ⟨ret_bool (by unfold betw; rw [Int.min_eq_left (by omega), Int.max_eq_right (by omega)]; simp [h2]), rfl⟩
      · go_enter Try.func38, Try.ntmps38
        go_wp2
        go_ret
        exact ⟨ret_bool (by unfold betw; rw [Int.min_eq_left (by omega), Int.max_eq_left (by omega)]; simp [h2]), rfl⟩
    · go_enter Try.func38, Try.ntmps38
      go_wp2
      go_ret
      exact ⟨ret_bool (by unfold betw; rw [Int.min_eq_left (by omega)]; simp; omega), rfl⟩

theorem levTo_succ {xs : List Int} {i : Nat} : (List.range (i + 1)).map (fun i : Nat => lastTo xs i xs.length) = (List.range i).map (fun i : Nat => lastTo xs i xs.length) ++ [lastTo xs i xs.length] := by
  rw [List.range_succ, List.map_append]; rfl

set_option maxHeartbeats 1000000 in
theorem spec_l2Levels (a : Option Addr) (m n cap : Nat) (xs : List Int) (w : World) (h : Ints w a m cap xs) (hm : m ≤ 1048576) (hn : n ≤ 1048576) :
    Calls Try.prog 46 #[.int .i64 n, .slice a m cap] w (RInts w (levS n xs)) := by
  have H := Lib.hid h.length
  have hle := h.le_cap
  go_enter Try.func46, Try.ntmps46
  go_wp2
  go_loopw [5, 6] (fun v i wr => ∃ (k : Nat) (A : Option Addr) (c : Nat), k ≤ n ∧ i = .int .i64 k ∧ v = .slice A k c ∧ Hid (∀ j : Nat, j < k → (j : Int) ∈ xs) ∧ OwnI wr w.heap.size A k c ((List.range k).map fun i : Nat => lastTo xs i xs.length) ∧ Below w.heap.size w wr) (fun _ i _ => n - (intOf i).toNat)
  case atStart => exact ⟨0, _, _, Nat.zero_le _, rfl, rfl, fun j hj => absurd hj (Nat.not_lt_zero j), OwnI.lit0 w (Nat.le_refl _), (Below.refl _ _).alloc (Nat.le_refl _) _⟩
  case round =>
    obtain ⟨k, A, c, hk, rfl, rfl, HA, HO, hB⟩ := hrel
    by_cases hlt : k < n
    · obtain ⟨wo, rfl⟩ : ∃ wo : World, wo = wr := ⟨_, rfl⟩
      go_wp2
      go_loop [7, 8] (fun l j => ∃ q : Nat, q ≤ m ∧ j = .int .i64 q ∧ l = .int .i64 (lastTo xs k q)) (fun _ j => m - (intOf j).toNat)
      case atStart => exact ⟨0, Nat.zero_le _, rfl, rfl⟩
      case round =>
        obtain ⟨q, hq, rfl, rfl⟩ := hrel
        by_cases hlt2 : q < m
        · obtain ⟨b, off, rfl, hc⟩ := (h.below hB).cells (by omega)
          have hck := hc q hlt2
          clear hc
          by_cases he : xs[q]?.getD 0 = (k : Int)
          · have he1 : (xs[q]?.getD 0 == (k : Int)) = true := by rw [beq_iff_eq]; exact he
            have HS : Hid (lastTo xs k (q + 1) = (q : Int)) := by unfold Hid; rw [lastTo, if_pos he]
            clear he
            go_wp2
            go_round
            case rel => exact ⟨q + 1, by omega, by go_num, by rw [HS.out]⟩
            case measure => simp [intOf]; omega
          · have he1 : (xs[q]?.getD 0 == (k : Int)) = false := by rw [beq_eq_false_iff_ne]; exact he
            have HS : Hid (lastTo xs k (q + 1) = lastTo xs k q) := by unfold Hid; rw [lastTo, if_neg he]
            clear he
            go_wp2
            go_round
            case rel => exact ⟨q + 1, by omega, by go_num, by rw [HS.out]⟩
            case measure => simp [intOf]; omega
        · obtain rfl : q = m := by omega
          have hmem := lastTo_mem (xs := xs) (v := (k : Int)) (k := xs.length) (Nat.le_refl _)
          rw [List.take_length] at hmem
          by_cases hin : (k : Int) ∈ xs
          · have hp : 0 ≤ lastTo xs k q := by have := hmem.2 hin; rwa [H.out] at this
            have HA1 : Hid (∀ j : Nat, j < k + 1 → (j : Int) ∈ xs) := fun j hj => by
              by_cases e : j = k
              · subst e; exact hin
              · exact HA.out j (by omega)
            clear hmem hin HA
            go_wp2_with (at_builtin; (refine wpList_append_int tyInts rfl (.tmp 31) (.tmp 33) rfl w.heap.size A k c _ rfl (HO.below ((Below.refl _ _).alloc (Nat.le_refl _) _)) wo.heap.size (lastTo xs k q) rfl (by simp) (by omega) (by have := hB.size; simp; omega) ?_); intro A2 c2 w2 o2 g2 e2; have b2 := Below.appended (hB.alloc hB.size _) (by have := hB.size; simp; omega) g2 HO.base_le; clear g2 e2)
            go_roundw
            case rel => exact ⟨k + 1, A2, c2, by omega, by go_num, rfl, HA1, by rw [levTo_succ]; rw [← H.out] at o2; exact o2, b2⟩
            case measure => simp [intOf]; omega
          · have hp : lastTo xs k q < 0 := by
              have h9 : ¬ 0 ≤ lastTo xs k xs.length := fun z => hin (hmem.1 z)
              rw [H.out] at h9
              omega
            have HF : Hid (levS n xs = []) := levS_not (permN_false fun z => hin (z k hlt))
            clear hmem hin
            go_wp2
            go_ret
            rw [HF.out]
            exact ⟨_, _, _, rfl, OwnI.lit0 _ hB.size, hB.alloc hB.size _⟩
    · obtain rfl : k = n := by omega
      have HT : Hid (levS k xs = (List.range k).map fun i : Nat => lastTo xs i xs.length) := by
        unfold Hid levS
        rw [if_pos ((permN_iff _ _).2 HA.out)]
      go_wp2
      go_ret
      rw [HT.out]
      exact ⟨_, _, _, rfl, HO, hB⟩

end Go.Proofs.Ytahbflbhkalehaa
