/-
  Plain facts on strips that are folded by steps. No program in sight.
-/
import Derived.Test.YtahbflbhkalehaaPlainL
import Derived.Test.YtahbflbhkalehaaPlainV
namespace Go.Proofs.Ytahbflbhkalehaa
open Go.RowKit

/-- The lengths, the folds behind a crimp, and whether it may be done. -/
def crimpX (xs : List Int) (k : Nat) : List Int := xs.take (k - 1) ++ [at0 xs (k - 1) + at0 xs (k + 1) - at0 xs k] ++ xs.drop (k + 2)
def crimpS (s : ByteArray) (k : Nat) : ByteArray := s.extract 0 (k - 1) ++ s.extract (k + 1) s.size
def crimpB (xs : List Int) (s : ByteArray) (k : Nat) : Bool := (bAt s (k - 1) != bAt s k) && (decide (at0 xs k ≤ at0 xs (k - 1)) && decide (at0 xs k ≤ at0 xs (k + 1)))
/-- What foldable and l2Steps answer at n parts. -/
def stepsB : Nat → List Int → ByteArray → Bool
  | 0, _, _ => true
  | 1, _, _ => true
  | n + 2, xs, s =>
    (decide (at0 xs 0 ≤ at0 xs 1) && stepsB (n + 1) (xs.drop 1) (s.extract 1 s.size)) ||
    ((decide (at0 xs (n + 1) ≤ at0 xs n) && stepsB (n + 1) (xs.take (n + 1)) (s.extract 0 n)) ||
    (List.range n).any fun j => crimpB xs s (j + 1) && stepsB n (crimpX xs (j + 1)) (crimpS s (j + 1)))
/-- No crimp below a number serves. -/
def noTo (n : Nat) (xs : List Int) (s : ByteArray) (k : Nat) : Prop := ∀ j, 1 ≤ j → j < k → (crimpB xs s j && stepsB (n - 2) (crimpX xs j) (crimpS s j)) = false
theorem noTo_one (n : Nat) (xs : List Int) (s : ByteArray) : noTo n xs s 1 := fun _ h1 h2 => by omega
theorem noTo_succ {n : Nat} {xs : List Int} {s : ByteArray} {k : Nat} (h : noTo n xs s k) (h1 : (crimpB xs s k && stepsB (n - 2) (crimpX xs k) (crimpS s k)) = false) : noTo n xs s (k + 1) := fun j hj hk => by
  by_cases e : j = k
  · rw [e]; exact h1
  · exact h j hj (by omega)
theorem steps_one (xs : List Int) (s : ByteArray) : stepsB 1 xs s = true := rfl
theorem steps_first {n : Nat} {xs : List Int} {s : ByteArray} (hn : 2 ≤ n) (h : at0 xs 0 ≤ at0 xs 1) (h1 : stepsB (n - 1) (xs.drop 1) (s.extract 1 s.size) = true) : stepsB n xs s = true := by
  obtain ⟨m, rfl⟩ : ∃ m, n = m + 2 := ⟨n - 2, by omega⟩
  rw [show m + 2 - 1 = m + 1 by omega] at h1
  unfold stepsB
  rw [decide_eq_true h, h1]
  rfl
theorem steps_last {n : Nat} {xs : List Int} {s : ByteArray} (hn : 2 ≤ n) (h : at0 xs (n - 1) ≤ at0 xs (n - 2)) (h1 : stepsB (n - 1) (xs.take (n - 1)) (s.extract 0 (n - 2)) = true) : stepsB n xs s = true := by
  obtain ⟨m, rfl⟩ : ∃ m, n = m + 2 := ⟨n - 2, by omega⟩
  rw [show m + 2 - 1 = m + 1 by omega, show m + 2 - 2 = m by omega] at h h1
  unfold stepsB
  rw [decide_eq_true h, h1]
  simp
theorem steps_crimp {n : Nat} {xs : List Int} {s : ByteArray} {k : Nat} (hk1 : 1 ≤ k) (hk : k + 1 < n) (h : crimpB xs s k = true) (h1 : stepsB (n - 2) (crimpX xs k) (crimpS s k) = true) : stepsB n xs s = true := by
  obtain ⟨m, rfl⟩ : ∃ m, n = m + 2 := ⟨n - 2, by omega⟩
  rw [show m + 2 - 2 = m by omega] at h1
  unfold stepsB
  have : ((List.range m).any fun j => crimpB xs s (j + 1) && stepsB m (crimpX xs (j + 1)) (crimpS s (j + 1))) = true := by
    rw [List.any_eq_true]
    refine ⟨k - 1, List.mem_range.2 (by omega), ?_⟩
    rw [show k - 1 + 1 = k by omega, h, h1]
    rfl
  rw [this]
  simp
theorem steps_none {n : Nat} {xs : List Int} {s : ByteArray} {k : Nat} (hn : 2 ≤ n) (h0 : ¬ (at0 xs 0 ≤ at0 xs 1 ∧ stepsB (n - 1) (xs.drop 1) (s.extract 1 s.size) = true))
    (h1 : ¬ (at0 xs (n - 1) ≤ at0 xs (n - 2) ∧ stepsB (n - 1) (xs.take (n - 1)) (s.extract 0 (n - 2)) = true)) (h2 : noTo n xs s k) (hk : n ≤ k + 1) : stepsB n xs s = false := by
  obtain ⟨m, rfl⟩ : ∃ m, n = m + 2 := ⟨n - 2, by omega⟩
  rw [show m + 2 - 1 = m + 1 by omega] at h0 h1
  rw [show m + 2 - 2 = m by omega] at h1
  unfold stepsB
  rw [Bool.or_eq_false_iff, Bool.or_eq_false_iff]
  refine ⟨?_, ?_, ?_⟩
  · rw [Bool.and_eq_false_iff]
    by_cases q : at0 xs 0 ≤ at0 xs 1
    · right; cases e : stepsB (m + 1) (xs.drop 1) (s.extract 1 s.size) with
      | false => rfl
      | true => exact absurd ⟨q, e⟩ h0
    · exact .inl (decide_eq_false q)
  · rw [Bool.and_eq_false_iff]
    by_cases q : at0 xs (m + 1) ≤ at0 xs m
    · right; cases e : stepsB (m + 1) (xs.take (m + 1)) (s.extract 0 m) with
      | false => rfl
      | true => exact absurd ⟨q, e⟩ h1
    · exact .inl (decide_eq_false q)
  · rw [List.any_eq_false]
    intro j hj
    have := h2 (j + 1) (by omega) (by have := List.mem_range.1 hj; omega)
    rw [show m + 2 - 2 = m by omega] at this
    rw [this]
    simp

/-- Lengths that steps may meet. -/
def lensOk (xs : List Int) : Prop := (∀ x ∈ xs, 1 ≤ x) ∧ xs.sum ≤ 6000
theorem sum_nonneg {xs : List Int} (h : ∀ x ∈ xs, 1 ≤ x) : 0 ≤ xs.sum := by
  induction xs with
  | nil => simp
  | cons x r ih =>
    have := h x (by simp)
    have := ih fun y hy => h y (by simp [hy])
    simp only [List.sum_cons]
    omega
theorem le_sum {xs : List Int} (h : ∀ x ∈ xs, 1 ≤ x) {k : Nat} (hk : k < xs.length) : 1 ≤ at0 xs k ∧ at0 xs k ≤ xs.sum := by
  have hm : at0 xs k ∈ xs := mem_getI xs k hk
  refine ⟨h _ hm, ?_⟩
  generalize at0 xs k = y at hm
  induction xs generalizing k with
  | nil => cases hm
  | cons x r ih =>
    have h1 := h x (by simp)
    have h2 := sum_nonneg (xs := r) fun y hy => h y (by simp [hy])
    simp only [List.sum_cons]
    rcases List.mem_cons.1 hm with e | e
    · omega
    · have hl : 0 < r.length := List.length_pos_of_mem e
      have := ih (fun y hy => h y (by simp [hy])) (k := 0) hl e
      omega
theorem lensOk_get {xs : List Int} (h : lensOk xs) {k : Nat} (hk : k < xs.length) : 1 ≤ at0 xs k ∧ at0 xs k ≤ 6000 := by
  have := le_sum h.1 hk
  have := h.2
  omega
theorem lensOk_drop {xs : List Int} (h : lensOk xs) (k : Nat) : lensOk (xs.drop k) := by
  refine ⟨fun x hx => h.1 x (List.mem_of_mem_drop hx), ?_⟩
  have e := sum_append' (xs.take k) (xs.drop k)
  rw [List.take_append_drop] at e
  have := sum_nonneg (xs := xs.take k) fun x hx => h.1 x (List.mem_of_mem_take hx)
  have := h.2
  omega
theorem lensOk_take {xs : List Int} (h : lensOk xs) (k : Nat) : lensOk (xs.take k) := by
  refine ⟨fun x hx => h.1 x (List.mem_of_mem_take hx), ?_⟩
  have e := sum_append' (xs.take k) (xs.drop k)
  rw [List.take_append_drop] at e
  have := sum_nonneg (xs := xs.drop k) fun x hx => h.1 x (List.mem_of_mem_drop hx)
  have := h.2
  omega
theorem split3 {xs : List Int} {k : Nat} (hk1 : 1 ≤ k) (hk : k + 1 < xs.length) : xs = xs.take (k - 1) ++ (at0 xs (k - 1) :: at0 xs k :: at0 xs (k + 1) :: xs.drop (k + 2)) := by
  have e := List.take_append_drop (k - 1) xs
  have g : ∀ j (hj : j < xs.length), xs[j] = at0 xs j := fun j hj => by unfold at0; rw [List.getElem?_eq_getElem hj]; rfl
  rw [List.drop_eq_getElem_cons (by omega), g, show k - 1 + 1 = k by omega, List.drop_eq_getElem_cons (by omega), g, List.drop_eq_getElem_cons (by omega), g, show k + 1 + 1 = k + 2 by omega] at e
  exact e.symm
theorem crimpX_length {xs : List Int} {k : Nat} (hk1 : 1 ≤ k) (hk : k + 1 < xs.length) : (crimpX xs k).length = xs.length - 2 := by
  unfold crimpX
  simp only [List.length_append, List.length_take, List.length_drop, List.length_cons, List.length_nil]
  omega
theorem lensOk_crimp {xs : List Int} (h : lensOk xs) {k : Nat} (hk1 : 1 ≤ k) (hk : k + 1 < xs.length) {s : ByteArray} (hc : crimpB xs s k = true) : lensOk (crimpX xs k) := by
  unfold crimpB at hc
  simp only [Bool.and_eq_true, decide_eq_true_eq] at hc
  have e := split3 hk1 hk
  have g0 := lensOk_get h (k := k - 1) (by omega)
  have g1 := lensOk_get h (k := k) (by omega)
  have g2 := lensOk_get h (k := k + 1) (by omega)
  refine ⟨fun x hx => ?_, ?_⟩
  · unfold crimpX at hx
    rcases List.mem_append.1 hx with hx | hx
    · rcases List.mem_append.1 hx with hx | hx
      · exact h.1 x (List.mem_of_mem_take hx)
      · rw [List.mem_singleton] at hx
        omega
    · exact h.1 x (List.mem_of_mem_drop hx)
  · have hs := h.2
    rw [e] at hs
    rw [sum_append'] at hs
    simp only [List.sum_cons] at hs
    unfold crimpX
    rw [sum_append', sum_append']
    simp only [List.sum_cons, List.sum_nil]
    omega
theorem lengths_ok {xs : List Int} (h : lengthsB xs = true) : lensOk xs := by
  have hi := lengthsB_in h
  have hl := lengthsB_len h
  refine ⟨fun x hx => (hi x hx).1, ?_⟩
  have := (sum_bd (hi := 1000) (by omega) hi).2
  omega
theorem size_ext (s : ByteArray) {i j : Nat} (hj : j ≤ s.size) : (s.extract i j).size = j - i := by
  rw [ByteArray.size_extract]; omega
theorem crimpS_size {s : ByteArray} {k : Nat} (hk1 : 1 ≤ k) (hk : k < s.size) : (crimpS s k).size = s.size - 2 := by
  unfold crimpS
  rw [ByteArray.size_append, size_ext s (by omega), size_ext s (Nat.le_refl _)]
  omega
/-- What StripFolds answers. -/
def foldsB (xs : List Int) (s : ByteArray) : Bool := stripB xs s && stepsB xs.length xs s

end Go.Proofs.Ytahbflbhkalehaa
