/-
  Plain facts on the width of a strip. No program in sight.
-/
import Derived.Test.YtahbflbhkalehaaPlainS
namespace Go.Proofs.Ytahbflbhkalehaa
open Go.RowKit

def lonTo (xs : List Int) : Nat → Int
  | 0 => 0
  | k + 1 => max (lonTo xs k) (xs[k]?.getD 0)
def evTo (xs : List Int) : Nat → Int
  | 0 => 0
  | k + 1 => if k % 2 = 0 then evTo xs k + xs[k]?.getD 0 else evTo xs k
def odTo (xs : List Int) : Nat → Int
  | 0 => 0
  | k + 1 => if k % 2 = 0 then odTo xs k else odTo xs k + xs[k]?.getD 0
theorem ev_od_alt {xs : List Int} : ∀ k : Nat, k ≤ xs.length → alt (xs.take k) = evTo xs k - odTo xs k := by
  intro k
  induction k with
  | zero => intro _; simp [alt, evTo, odTo]
  | succ k ih =>
    intro hk
    rw [alt_take xs k (by omega), ih (by omega), evTo, odTo]
    by_cases h : k % 2 = 0
    · rw [if_pos h, if_pos h, if_pos h]; omega
    · rw [if_neg h, if_neg h, if_neg h]; omega
theorem ev_od_mono {xs : List Int} (h : allIn 1 1000 xs) : ∀ k d : Nat, k + d ≤ xs.length → evTo xs k ≤ evTo xs (k + d) ∧ odTo xs k ≤ odTo xs (k + d) := by
  intro k d
  induction d with
  | zero => intro _; exact ⟨Int.le_refl _, Int.le_refl _⟩
  | succ d ih =>
    intro hk
    have h1 := ih (by omega)
    have h2 := allIn_get h (k + d) (by omega)
    rw [← Nat.add_assoc, evTo, odTo]
    by_cases hp : (k + d) % 2 = 0
    · rw [if_pos hp, if_pos hp]; omega
    · rw [if_neg hp, if_neg hp]; omega
theorem ev_od_bd {xs : List Int} (h : allIn 1 1000 xs) : ∀ k : Nat, k ≤ xs.length → (0 ≤ evTo xs k ∧ evTo xs k ≤ 1000 * k) ∧ (0 ≤ odTo xs k ∧ odTo xs k ≤ 1000 * k) ∧ (0 ≤ lonTo xs k ∧ lonTo xs k ≤ 1000) := by
  intro k
  induction k with
  | zero => intro _; simp [evTo, odTo, lonTo]
  | succ k ih =>
    intro hk
    have h1 := ih (by omega)
    have h2 := allIn_get h k (by omega)
    rw [evTo, odTo, lonTo]
    by_cases hp : k % 2 = 0
    · rw [if_pos hp, if_pos hp]; omega
    · rw [if_neg hp, if_neg hp]; omega
theorem leastTo_le : ∀ (xs : List Int) (s : Int), leastTo s xs ≤ s ∧ ∀ x ∈ xs, leastTo s xs ≤ x := by
  intro xs
  induction xs with
  | nil => intro s; exact ⟨Int.le_refl _, fun x hx => by cases hx⟩
  | cons y r ih =>
    intro s
    have h1 := ih (min s y)
    refine ⟨?_, fun x hx => ?_⟩
    · show leastTo (min s y) r ≤ s; omega
    · show leastTo (min s y) r ≤ x
      rcases List.mem_cons.1 hx with rfl | hx
      · omega
      · exact h1.2 x hx
theorem mostTo_ge : ∀ (xs : List Int) (s : Int), s ≤ mostTo s xs ∧ ∀ x ∈ xs, x ≤ mostTo s xs := by
  intro xs
  induction xs with
  | nil => intro s; exact ⟨Int.le_refl _, fun x hx => by cases hx⟩
  | cons y r ih =>
    intro s
    have h1 := ih (max s y)
    refine ⟨?_, fun x hx => ?_⟩
    · show s ≤ mostTo (max s y) r; omega
    · show x ≤ mostTo (max s y) r
      rcases List.mem_cons.1 hx with rfl | hx
      · omega
      · exact h1.2 x hx
theorem leastTo_mem : ∀ (xs : List Int) (s : Int), leastTo s xs = s ∨ leastTo s xs ∈ xs := by
  intro xs
  induction xs with
  | nil => intro s; exact .inl rfl
  | cons y r ih =>
    intro s
    have e : leastTo s (y :: r) = leastTo (min s y) r := rfl
    rw [e]
    rcases ih (min s y) with h | h
    · rw [h]
      by_cases hs : s ≤ y
      · left; omega
      · right; rw [show min s y = y by omega]; simp
    · right; simp [h]
theorem mostTo_mem : ∀ (xs : List Int) (s : Int), mostTo s xs = s ∨ mostTo s xs ∈ xs := by
  intro xs
  induction xs with
  | nil => intro s; exact .inl rfl
  | cons y r ih =>
    intro s
    have e : mostTo s (y :: r) = mostTo (max s y) r := rfl
    rw [e]
    rcases ih (max s y) with h | h
    · rw [h]
      by_cases hs : y ≤ s
      · left; omega
      · right; rw [show max s y = y by omega]; simp
    · right; simp [h]
theorem mem_places {xs : List Int} {x : Int} (h : x ∈ placesL xs) : ∃ k, k ≤ xs.length ∧ x = alt (xs.take k) := by
  unfold placesL at h
  obtain ⟨k, hk, rfl⟩ := List.mem_map.1 h
  exact ⟨k, by have := List.mem_range.1 hk; omega, rfl⟩
theorem places_mem {xs : List Int} {k : Nat} (h : k ≤ xs.length) : alt (xs.take k) ∈ placesL xs := by
  unfold placesL
  exact List.mem_map.2 ⟨k, List.mem_range.2 (by omega), rfl⟩
theorem wide_ge {xs : List Int} : ∀ k : Nat, k ≤ xs.length → lonTo xs k ≤ wideL xs := by
  intro k
  induction k with
  | zero =>
    intro _
    have h1 := (leastTo_le (placesL xs) 0).1
    have h2 := (mostTo_ge (placesL xs) 0).1
    unfold lonTo wideL
    omega
  | succ k ih =>
    intro hk
    have h0 := ih (by omega)
    have a1 := (leastTo_le (placesL xs) 0).2 _ (places_mem (k := k) (by omega))
    have a2 := (leastTo_le (placesL xs) 0).2 _ (places_mem (k := k + 1) hk)
    have a3 := (mostTo_ge (placesL xs) 0).2 _ (places_mem (k := k) (by omega))
    have a4 := (mostTo_ge (placesL xs) 0).2 _ (places_mem (k := k + 1) hk)
    have a5 := alt_take xs k (by omega)
    rw [lonTo]
    have : xs[k]?.getD 0 ≤ wideL xs := by
      unfold wideL
      by_cases hp : k % 2 = 0
      · rw [if_pos hp] at a5; omega
      · rw [if_neg hp] at a5; omega
    omega
theorem wide_le {xs : List Int} (h : lengthsB xs = true) : wideL xs ≤ max (evTo xs xs.length) (odTo xs xs.length) := by
  have hin := lengthsB_in h
  have zero : (0 : Int) = alt (xs.take 0) := by simp [alt]
  have hm : ∃ i, i ≤ xs.length ∧ mostTo 0 (placesL xs) = alt (xs.take i) := by
    rcases mostTo_mem (placesL xs) 0 with e | e
    · exact ⟨0, Nat.zero_le _, e.trans zero⟩
    · exact mem_places e
  have hl : ∃ i, i ≤ xs.length ∧ leastTo 0 (placesL xs) = alt (xs.take i) := by
    rcases leastTo_mem (placesL xs) 0 with e | e
    · exact ⟨0, Nat.zero_le _, e.trans zero⟩
    · exact mem_places e
  obtain ⟨i, hi, ei⟩ := hm
  obtain ⟨j, hj, ej⟩ := hl
  unfold wideL
  rw [ei, ej, ev_od_alt i hi, ev_od_alt j hj]
  have b0 := ev_od_mono hin 0 i (by omega)
  have b1 := ev_od_mono hin 0 j (by omega)
  rw [Nat.zero_add] at b0 b1
  have z1 : evTo xs 0 = 0 := rfl
  have z2 : odTo xs 0 = 0 := rfl
  have b2 := ev_od_mono hin i (xs.length - i) (by omega)
  have b3 := ev_od_mono hin j (xs.length - j) (by omega)
  rw [show i + (xs.length - i) = xs.length by omega] at b2
  rw [show j + (xs.length - j) = xs.length by omega] at b3
  rcases Nat.le_total j i with q | q
  · have b4 := ev_od_mono hin j (i - j) (by omega)
    rw [show j + (i - j) = i by omega] at b4
    omega
  · have b4 := ev_od_mono hin i (j - i) (by omega)
    rw [show i + (j - i) = j by omega] at b4
    omega

end Go.Proofs.Ytahbflbhkalehaa
