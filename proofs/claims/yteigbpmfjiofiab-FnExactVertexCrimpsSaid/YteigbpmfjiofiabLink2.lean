/-
  What impl's allowed answers on a ring of linked creases.
-/
import Derived.Test.YteigbpmfjiofiabLink
import Derived.Test.YteigbpmfjiofiabPlainW
import Derived.LaidEql
namespace Go.Proofs.Yteigbpmfjiofiab
open Go.RowKit

theorem least_all {xs : List Int} {i : Nat} (hi : i < xs.length) (h : ∀ j, j < xs.length → xs[i]?.getD 0 ≤ xs[j]?.getD 0) : xs[i]?.getD 0 = leastL xs := by
  have hm : ∀ j, j < xs.length → xs[j]?.getD 0 ∈ xs := fun j hj => by rw [List.getElem?_eq_getElem hj]; exact List.getElem_mem _
  have h1 := (leastTo_le xs (xs[0]?.getD 0)).2 _ (hm i hi)
  unfold leastL
  rcases leastTo_mem xs (xs[0]?.getD 0) with e | e
  · have := h 0 (by omega); omega
  · obtain ⟨j, hj, e2⟩ := List.getElem_of_mem e
    have := h j hj
    rw [List.getElem?_eq_getElem hj, Option.getD_some, e2] at this
    omega
theorem least_not {xs : List Int} {i j : Nat} (hj : j < xs.length) (hlt : xs[j]?.getD 0 < xs[i]?.getD 0) : ¬ xs[i]?.getD 0 = leastL xs := fun e => by
  have h1 := (leastTo_le xs (xs[0]?.getD 0)).2 (xs[j]?.getD 0) (by rw [List.getElem?_eq_getElem hj]; exact List.getElem_mem _)
  unfold leastL at e
  omega
theorem RingAt.below {W W' : World} {R k : Nat} {xs : List Int} {s : ByteArray} (h : RingAt W R k xs s) (hb : Below W.heap.size W W') : RingAt W' R k xs s where
  many := cell_below hb h.many
  first := cell_below hb h.first
  ang := fun j hj => cell_below hb (h.ang j hj)
  fol := fun j hj => cell_below hb (h.fol j hj)
  prev := fun j hj => cell_below hb (h.prev j hj)
  next := fun j hj => cell_below hb (h.next j hj)
  frz := fun i u h1 h2 => by
    have hlt : i < W.heap.size := by
      by_cases e : i = R
      · subst e; exact World.block_lt_of_cell? _ _ h.many
      · have := World.block_lt_of_cell? _ _ (h.ang (i - R - 1) (by omega))
        simp only at this
        omega
    rw [hb.frozen hlt]
    exact h.frz i u h1 h2
  blk := fun j hj => by
    obtain ⟨c, hc⟩ := h.blk j hj
    have hlt := World.block_lt_of_cell? _ _ (h.ang j hj)
    exact ⟨c, by rw [hb.block (R + 1 + j) hlt]; exact hc⟩
theorem crease_ptr : Try.prog.underlying 79 = some (.pointer 83) := by kernel_rfl
theorem crease_size : (Try.prog.info? 83).map (fun i => decide (i.size = 0)) = some false := by kernel_rfl
theorem ptr_eqIn {W : World} {J A : Nat} {b : Bool} (d : Nat) (h : (sameAddr ⟨J, 0, none⟩ ⟨A, 0, none⟩).run Try.prog W = .ok b W) :
    (Op.equalIn (d + 1) 79 (.pointer (some ⟨J, 0, none⟩)) (.pointer (some ⟨A, 0, none⟩))).run Try.prog W = .ok b W := by
  have hs := crease_size
  cases hi : Try.prog.info? 83 with
  | none => rw [hi] at hs; cases hs
  | some j =>
    rw [hi] at hs
    have hsz : j.size ≠ 0 := by simpa using hs
    simp [Op.equalIn, run_underlying crease_ptr, sizeOf, typeInfo, hi, hsz, h]
theorem ptr_ne {W : World} {J A : Nat} (hne : J ≠ A) (hJ : ∃ c, W.heap[J]? = some (.cells c 83 (0, 0))) (hA : ∃ c, W.heap[A]? = some (.cells c 83 (0, 0))) :
    (binOp .neq 79 (.pointer (some ⟨J, 0, none⟩)) (.pointer (some ⟨A, 0, none⟩))).run Try.prog W = .ok (.bool true) W := by
  obtain ⟨c1, h1⟩ := hJ
  obtain ⟨c2, h2⟩ := hA
  have h := ptr_eqIn 9999 (run_sameAddr_other (P := Try.prog) W (a := ⟨J, 0, none⟩) (b := ⟨A, 0, none⟩) (by intro e; injection e with e _ _; exact hne e) h1 h2)
  simp only [binOp]
  simp [Op.equal, Op.maxDepth, h]
theorem ptr_same {W : World} {A : Nat} :
    (binOp .neq 79 (.pointer (some ⟨A, 0, none⟩)) (.pointer (some ⟨A, 0, none⟩))).run Try.prog W = .ok (.bool false) W := by
  have h := ptr_eqIn 9999 (run_sameAddr_same (P := Try.prog) W ⟨A, 0, none⟩)
  simp only [binOp]
  simp [Op.equal, Op.maxDepth, h]

theorem ring_at {i d k j : Nat} (hi : i < k) (hd : d + 1 ≤ k) (h : (i + 1 + d) % k = j) : j < k ∧ (i + k - j) % k = k - 1 - d ∧ (d + 1 = k ↔ j = i) ∧ (if j + 1 = k then 0 else j + 1) = (i + 1 + (d + 1)) % k := by
  have hj : j < k := by rw [← h]; exact Nat.mod_lt _ (by omega)
  by_cases hc : i + 1 + d < k
  · rw [Nat.mod_eq_of_lt hc] at h
    refine ⟨hj, ?_, by omega, ?_⟩
    · rw [show i + k - j = k - 1 - d by omega]; exact Nat.mod_eq_of_lt (by omega)
    · by_cases e : j + 1 = k
      · rw [if_pos e, show i + 1 + (d + 1) = k by omega, Nat.mod_self]
      · rw [if_neg e, Nat.mod_eq_of_lt (by omega)]; omega
  · rw [show i + 1 + d = (i + 1 + d - k) + k by omega, Nat.add_mod_right, Nat.mod_eq_of_lt (by omega)] at h
    refine ⟨hj, ?_, by omega, ?_⟩
    · rw [show i + k - j = (k - 1 - d) + k by omega, Nat.add_mod_right]; exact Nat.mod_eq_of_lt (by omega)
    · rw [show i + 1 + (d + 1) = (i + 1 + (d + 1) - k) + k by omega, Nat.add_mod_right]
      by_cases e : j + 1 = k
      · rw [if_pos e, show i + 1 + (d + 1) - k = k by omega, Nat.mod_self]
      · rw [if_neg e, Nat.mod_eq_of_lt (by omega)]; omega
theorem ring_all {i k : Nat} {xs : List Int} (hl : xs.length = k) (hi : i < k) (h : ∀ e, e < k - 1 → xs[i]?.getD 0 ≤ xs[(i + 1 + e) % k]?.getD 0) : xs[i]?.getD 0 = leastL xs := by
  refine least_all (by omega) fun m hm => ?_
  by_cases hmi : m = i
  · subst hmi; exact Int.le_refl _
  · by_cases hlt : i < m
    · have := h (m - i - 1) (by omega)
      rwa [show i + 1 + (m - i - 1) = m by omega, Nat.mod_eq_of_lt (by omega)] at this
    · have := h (m + k - i - 1) (by omega)
      rwa [show i + 1 + (m + k - i - 1) = m + k by omega, Nat.add_mod_right, Nat.mod_eq_of_lt (by omega)] at this
/-- How many creases the walk round a ring has still ahead. -/
def aheadV (R i k : Nat) : Value → Nat
  | .pointer (some a) => (i + k - (a.block - R - 1)) % k
  | _ => 0

set_option maxRecDepth 100000 in
set_option maxHeartbeats 1000000 in
theorem impl_allowed (R k i : Nat) (xs : List Int) (s : ByteArray) (w : World) (h : RingAt w R k xs s) (hl : xs.length = k) (hk : k ≤ 1048576) (hi : i < k) :
    Calls Try.prog 70 #[.pointer (some ⟨R, 0, none⟩), .pointer (some ⟨R + 1 + i, 0, none⟩)] w (RVal w (.bool (decide (4 ≤ k) && crimpAt xs s i))) := by
  have HL := Lib.hid hl
  have m1 := h.many
  by_cases h4 : 4 ≤ k
  · have hd : decide ((k : Int) < 4) = false := decide_eq_false (by omega)
    have h4I : ¬ (k : Int) < 4 := by omega
    obtain ⟨nx, hnx⟩ : ∃ nx, (if i + 1 = k then 0 else i + 1) = nx := ⟨_, rfl⟩
    have hnk : nx < k := by rw [← hnx]; split <;> omega
    have hnm : (i + 1) % k = nx := by
      rw [← hnx]
      by_cases e : i + 1 = k
      · rw [if_pos e, e, Nat.mod_self]
      · rw [if_neg e]; exact Nat.mod_eq_of_lt (by omega)
    have x1 := h.next i hi
    rw [hnx] at x1
    have b1 := h.fol i hi
    have b2 := h.fol nx hnk
    have HC : Hid (crimpAt xs s i = ((xs[i]?.getD 0 == leastL xs) && (bAt s i != bAt s nx))) := by
      unfold Hid crimpAt
      rw [hl, hnm]
    have HD : Hid (decide (4 ≤ k) = true) := decide_eq_true h4
    have HX := Lib.hid h
    have HNX := Lib.hid hnx
    obtain ⟨A, hA⟩ : ∃ A, R + 1 + i = A := ⟨_, rfl⟩
    obtain ⟨N, hN⟩ : ∃ N, R + 1 + nx = N := ⟨_, rfl⟩
    rw [hA] at x1 b1
    rw [hN] at x1 b2
    rw [hA]
    have HA := Lib.hid hA
    have HN := Lib.hid hN
    clear h hnx hA hN h4 hl hnm
    by_cases hb : bAt s i = bAt s nx
    · have hbd : decide (((bAt s i).toNat : Int) = ((bAt s nx).toNat : Int)) = true := decide_eq_true (by rw [hb])
      have HR : Hid ((decide (4 ≤ k) && crimpAt xs s i) = false) := by
        unfold Hid; rw [HC.out, bne_eq_false_iff_eq.2 hb, Bool.and_false, Bool.and_false]
      have hbI : ((bAt s i).toNat : Int) = ((bAt s nx).toNat : Int) := by rw [hb]
      clear hb
      generalize ((bAt s i).toNat : Int) = z1 at *
      generalize ((bAt s nx).toNat : Int) = z2 at *
      go_enter Try.func70, Try.ntmps70
      go_wp2_with fail
      go_quiet (fail)
      go_wp2_with fail
      go_ret
      exact ⟨by rw [HR.out]; rfl, below_drewN (Below.refl _ _) _⟩
    · have hbI : ¬ ((bAt s i).toNat : Int) = ((bAt s nx).toNat : Int) := fun e => hb (UInt8.toNat_inj.1 (by omega))
      have hbd := decide_eq_false hbI
      have HR : Hid ((decide (4 ≤ k) && crimpAt xs s i) = (xs[i]?.getD 0 == leastL xs)) := by
        unfold Hid; rw [HC.out, HD.out, bne_iff_ne.2 hb, Bool.true_and, Bool.and_true]
      clear hb
      generalize ((bAt s i).toNat : Int) = z1 at *
      generalize ((bAt s nx).toNat : Int) = z2 at *
      go_enter Try.func70, Try.ntmps70
      go_wp2_with fail
      go_quiet (fail)
      go_wp2_with fail
      have y1 := (HX.out.below (below_drewN (Below.refl _ _) nq)).ang i hi
      rw [show (z1 == z2) = false by rw [beq_eq_false_iff_ne]; exact hbI]
      go_loopw [4, 5] (fun r o wr => ∃ d j : Nat, r = .bool false ∧ d + 1 ≤ k ∧ (i + 1 + d) % k = j ∧ o = .pointer (some ⟨R + 1 + j, 0, none⟩) ∧ (∀ e, e < d → xs[i]?.getD 0 ≤ xs[(i + 1 + e) % k]?.getD 0) ∧ Below w.heap.size w wr) (fun _ o _ => aheadV R i k o)
      case atStart => exact ⟨0, nx, rfl, by omega, by have := HNX.out; rw [← this]; by_cases e : i + 1 = k; { rw [if_pos e]; simp [e] }; { rw [if_neg e]; exact Nat.mod_eq_of_lt (by omega) }, by rw [HN.out], fun e he => absurd he (Nat.not_lt_zero _), below_drewN (Below.refl _ _) _⟩
      case round =>
        obtain ⟨d, j, rfl, hdk, hj, rfl, hall, hB⟩ := hrel
        obtain ⟨hjk, hmeas, hend, hnext⟩ := ring_at hi hdk hj
        have HY := Lib.hid (HX.out.below hB)
        have c1 := HY.out.ang i hi
        have c2 := HY.out.ang j hjk
        have c3 := HY.out.next j hjk
        rw [hnext] at c3
        have HM := Lib.hid hmeas
        have HALL := Lib.hid hall
        have HJ := Lib.hid hj
        rw [HA.out] at c1
        obtain ⟨J, hJ⟩ : ∃ J, R + 1 + j = J := ⟨_, rfl⟩
        have HJJ := Lib.hid hJ
        rw [hJ] at c2 c3 ⊢
        clear hmeas hall hj hnext y1 x1 b1 b2 hbd hbI m1 hd h4I
        by_cases hz : d + 1 = k
        · have hji : j = i := hend.1 hz
          have hJA : J = A := by rw [← hJ, hji]; exact HA.out
          have HV : Hid ((xs[i]?.getD 0 == leastL xs) = true) := by
            unfold Hid; rw [beq_iff_eq]
            exact ring_all HL.out hi fun e he => HALL.out e (by omega)
          clear hend hJ hz hji c2 c3
          subst hJA
          have hpp := ptr_same (W := wr) (A := J)
          go_wp2_with fail
          go_ret
          exact ⟨by rw [HR.out, HV.out]; rfl, hB⟩
        · have hJA : J ≠ A := by rw [← hJ, ← HA.out]; omega
          have hJA2 : ¬ J = A := hJA
          have hAJ : ¬ A = J := fun e => hJA e.symm
          have k1 := HY.out.blk i hi
          have k2 := HY.out.blk j hjk
          rw [HA.out] at k1
          rw [hJ] at k2
          have hpp := ptr_ne hJA k2 k1
          have hdk2 : d + 2 ≤ k := by omega
          clear hend hJ hz k1 k2
          by_cases hlt : xs[j]?.getD 0 < xs[i]?.getD 0
          · have HV : Hid ((xs[i]?.getD 0 == leastL xs) = false) := by
              unfold Hid; rw [beq_eq_false_iff_ne]
              exact least_not (by rw [HL.out]; exact hjk) hlt
            go_wp2_with fail
            go_quiet (fail)
            go_wp2_with fail
            go_ret
            exact ⟨by rw [HR.out, HV.out]; rfl, below_drewN hB _⟩
          · have hltd := decide_eq_false hlt
            go_wp2_with fail
            go_quiet (fail)
            go_wp2_with fail
            go_roundw
            case rel =>
              refine ⟨d + 1, (i + 1 + (d + 1)) % k, rfl, by omega, rfl, rfl, fun e he => ?_, below_drewN hB _⟩
              by_cases hed : e < d
              · exact HALL.out e hed
              · obtain rfl : e = d := by omega
                rw [HJ.out]; omega
            case measure =>
              have e2 := (ring_at hi (show d + 1 + 1 ≤ k by omega) rfl).2.1
              have e1 := HM.out
              have e3 := HJJ.out
              show aheadV R i k (.pointer (some ⟨R + 1 + (i + 1 + (d + 1)) % k, 0, none⟩)) < aheadV R i k (.pointer (some ⟨J, 0, none⟩))
              unfold aheadV
              simp only [show R + 1 + (i + 1 + (d + 1)) % k - R - 1 = (i + 1 + (d + 1)) % k by omega, show J - R - 1 = j by omega]
              omega
  · have hd : decide ((k : Int) < 4) = true := decide_eq_true (by omega)
    have h4I : (k : Int) < 4 := by omega
    have HD : Hid (decide (4 ≤ k) = false) := decide_eq_false h4
    clear h h4 hl
    go_enter Try.func70, Try.ntmps70
    go_wp2_with fail
    go_quiet (fail)
    go_wp2_with fail
    go_ret
    exact ⟨by rw [HD.out]; rfl, below_drewN (Below.refl _ _) _⟩

end Go.Proofs.Yteigbpmfjiofiab
