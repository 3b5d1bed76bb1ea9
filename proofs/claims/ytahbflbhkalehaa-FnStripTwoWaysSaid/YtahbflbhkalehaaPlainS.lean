/-
  Plain facts on strips: lengths, places, texts. No program in sight.
-/
import Derived.Test.YtahbflbhkalehaaPlainA
namespace Go.Proofs.Ytahbflbhkalehaa
open Go.RowKit

/-- What lengthsValid answers. -/
def lengthsB (xs : List Int) : Bool := decide (1 ≤ xs.length ∧ xs.length ≤ 6 ∧ allIn 1 1000 xs)
theorem lengthsB_iff (xs : List Int) : lengthsB xs = true ↔ (1 ≤ xs.length ∧ xs.length ≤ 6 ∧ allIn 1 1000 xs) := by
  unfold lengthsB; exact decide_eq_true_iff
theorem lengthsB_false {xs : List Int} (h : ¬ (1 ≤ xs.length ∧ xs.length ≤ 6 ∧ allIn 1 1000 xs)) : lengthsB xs = false := by
  unfold lengthsB; exact decide_eq_false h
theorem lengthsB_in {xs : List Int} (h : lengthsB xs = true) : allIn 1 1000 xs := ((lengthsB_iff xs).1 h).2.2
theorem lengthsB_len {xs : List Int} (h : lengthsB xs = true) : 1 ≤ xs.length ∧ xs.length ≤ 6 := ⟨((lengthsB_iff xs).1 h).1, ((lengthsB_iff xs).1 h).2.1⟩
/-- What StripValid answers. -/
def stripB (xs : List Int) (s : ByteArray) : Bool := lengthsB xs && foldsValidB s ((xs.length : Int) - 1)
/-- What RingValid answers. -/
def ringB (xs : List Int) (s : ByteArray) : Bool := lengthsB xs && decide (xs.length % 2 = 0) && foldsValidB s (xs.length : Int) && (alt xs == 0)
theorem stripB_len {xs : List Int} {s : ByteArray} (h : stripB xs s = true) : lengthsB xs = true ∧ s.size + 1 = xs.length ∧ s.data.toList.all isMV = true := by
  unfold stripB foldsValidB at h
  simp only [Bool.and_eq_true, decide_eq_true_eq] at h
  exact ⟨h.1, by omega, h.2.2⟩
theorem ringB_len {xs : List Int} {s : ByteArray} (h : ringB xs s = true) : lengthsB xs = true ∧ xs.length % 2 = 0 ∧ s.size = xs.length ∧ s.data.toList.all isMV = true ∧ alt xs = 0 := by
  unfold ringB foldsValidB at h
  simp only [Bool.and_eq_true, decide_eq_true_eq, beq_iff_eq] at h
  exact ⟨h.1.1.1, h.1.1.2, by omega, h.1.2.2, h.2⟩

/-- The places at which the parts begin, and the last end. -/
def placesL (xs : List Int) : List Int := (List.range (xs.length + 1)).map fun k => alt (xs.take k)
def placesTo (xs : List Int) (k : Nat) : List Int := (List.range (k + 1)).map fun k => alt (xs.take k)
theorem placesTo_zero (xs : List Int) : placesTo xs 0 = [0] := rfl
theorem placesTo_succ (xs : List Int) (k : Nat) : placesTo xs (k + 1) = placesTo xs k ++ [alt (xs.take (k + 1))] := by
  unfold placesTo
  rw [List.range_succ, List.map_append]
  rfl
theorem placesTo_all (xs : List Int) (k : Nat) (h : k = xs.length) : placesTo xs k = placesL xs := by subst h; rfl
theorem placesL_length (xs : List Int) : (placesL xs).length = xs.length + 1 := by simp [placesL]
theorem placesTo_get (xs : List Int) (k j : Nat) (h : j ≤ k) : (placesTo xs k)[j]?.getD 0 = alt (xs.take j) := by
  unfold placesTo
  rw [List.getElem?_map, List.getElem?_range (by omega)]
  rfl
theorem placesL_get (xs : List Int) (j : Nat) (h : j ≤ xs.length) : (placesL xs)[j]?.getD 0 = alt (xs.take j) := placesTo_get xs xs.length j h

/-- The least and the greatest of the first k numbers and of a start. -/
def leastTo (s : Int) (xs : List Int) : Int := xs.foldl min s
def mostTo (s : Int) (xs : List Int) : Int := xs.foldl max s
theorem leastTo_snoc (s : Int) (xs : List Int) (x : Int) : leastTo s (xs ++ [x]) = min (leastTo s xs) x := by simp [leastTo]
theorem mostTo_snoc (s : Int) (xs : List Int) (x : Int) : mostTo s (xs ++ [x]) = max (mostTo s xs) x := by simp [mostTo]
theorem leastTo_bd {B : Int} : ∀ (xs : List Int) (s : Int), -B ≤ s ∧ s ≤ B → (∀ x ∈ xs, -B ≤ x ∧ x ≤ B) → -B ≤ leastTo s xs ∧ leastTo s xs ≤ B := by
  intro xs
  induction xs with
  | nil => intro s h _; exact h
  | cons x r ih =>
    intro s h hx
    have h1 := hx x (by simp)
    exact ih (min s x) (by omega) fun y hy => hx y (by simp [hy])
theorem mostTo_bd {B : Int} : ∀ (xs : List Int) (s : Int), -B ≤ s ∧ s ≤ B → (∀ x ∈ xs, -B ≤ x ∧ x ≤ B) → -B ≤ mostTo s xs ∧ mostTo s xs ≤ B := by
  intro xs
  induction xs with
  | nil => intro s h _; exact h
  | cons x r ih =>
    intro s h hx
    have h1 := hx x (by simp)
    exact ih (max s x) (by omega) fun y hy => hx y (by simp [hy])
theorem placesL_bd {xs : List Int} (h : lengthsB xs = true) : ∀ x ∈ placesL xs, -6000 ≤ x ∧ x ≤ 6000 := by
  intro x hx
  unfold placesL at hx
  obtain ⟨k, hk, rfl⟩ := List.mem_map.1 hx
  have hk' := List.mem_range.1 hk
  have h1 := alt_take_bd (lengthsB_in h) k
  have h2 := (lengthsB_len h).2
  omega
theorem placesL_get_bd {xs : List Int} (h : lengthsB xs = true) (k : Nat) (hk : k < xs.length + 1) : -6000 ≤ (placesL xs)[k]?.getD 0 ∧ (placesL xs)[k]?.getD 0 ≤ 6000 :=
  placesL_bd h _ (mem_getI _ k (by rw [placesL_length]; exact hk))
/-- What StripWide answers. -/
def wideL (xs : List Int) : Int := mostTo 0 (placesL xs) - leastTo 0 (placesL xs)
theorem placesL_head (xs : List Int) : ∃ r, placesL xs = 0 :: r := by
  refine ⟨(List.range xs.length).map fun k => alt (xs.take (k + 1)), ?_⟩
  unfold placesL
  rw [List.range_succ_eq_map, List.map_cons, List.map_map]
  rfl

/-- A text in the opposite order. -/
def revS (s : ByteArray) : ByteArray := ⟨s.data.reverse⟩
theorem revS_size (s : ByteArray) : (revS s).size = s.size := Array.size_reverse
/-- What l2Text has made when j letters have come. -/
def revTo (s : ByteArray) (j : Nat) : ByteArray := ⟨(s.data.toList.reverse.take j).toArray⟩
theorem revTo_zero (s : ByteArray) : revTo s 0 = ByteArray.empty := rfl
theorem revTo_size (s : ByteArray) (j : Nat) (h : j ≤ s.size) : (revTo s j).size = j := by
  show (s.data.toList.reverse.take j).toArray.size = j
  have : s.size = s.data.size := rfl
  simp
  omega
theorem revTo_succ (s : ByteArray) (j : Nat) (h : j < s.size) : revTo s (j + 1) = revTo s j ++ ⟨#[s[s.size - 1 - j]]⟩ := by
  have hz : s.size = s.data.size := rfl
  have hl : j < s.data.toList.reverse.length := by simp; omega
  apply ByteArray.ext
  rw [ByteArray.data_append]
  unfold revTo
  rw [List.take_succ_eq_append_getElem hl, List.getElem_reverse]
  simp
  rfl
theorem revTo_all (s : ByteArray) (j : Nat) (h : j = s.size) : revTo s j = revS s := by
  subst h
  apply ByteArray.ext
  unfold revTo revS
  have hz : s.size = s.data.size := rfl
  rw [List.take_of_length_le (by rw [List.length_reverse, Array.length_toList]; exact Nat.le_of_eq hz.symm)]
  apply Array.toList_inj.1
  simp

end Go.Proofs.Ytahbflbhkalehaa
