/-
  Plain facts on angles that are turned and counted back. No program in sight.
-/
import Derived.Test.YtahbflbhkalehaaPlainW
namespace Go.Proofs.Ytahbflbhkalehaa
open Go.RowKit

theorem sum_append' (a b : List Int) : (a ++ b).sum = a.sum + b.sum := by
  induction a with
  | nil => simp
  | cons x r ih => simp only [List.cons_append, List.sum_cons, ih]; omega
theorem anglesB_same {xs ys : List Int} (hl : ys.length = xs.length) (hs : ys.sum = xs.sum) (hm : ∀ y ∈ ys, y ∈ xs) (h : anglesB xs = true) : anglesB ys = true := by
  rw [anglesB_iff] at h ⊢
  rw [hl, hs]
  exact ⟨h.1, h.2.1, h.2.2.1, fun y hy => h.2.2.2.1 y (hm y hy), h.2.2.2.2⟩
theorem turn_length (xs : List Int) (k : Nat) : (xs.drop k ++ xs.take k).length = xs.length := by simp; omega
theorem anglesB_turn {xs : List Int} (k : Nat) (h : anglesB xs = true) : anglesB (xs.drop k ++ xs.take k) = true :=
  anglesB_same (turn_length xs k) (by
    have := sum_append' (xs.take k) (xs.drop k)
    rw [List.take_append_drop] at this
    rw [sum_append']
    omega) (fun y hy => by
    rcases List.mem_append.1 hy with q | q
    · exact List.mem_of_mem_drop q
    · exact List.mem_of_mem_take q) h
theorem sum_rev (xs : List Int) : xs.reverse.sum = xs.sum := by
  induction xs with
  | nil => rfl
  | cons x r ih => rw [List.reverse_cons, sum_append', ih]; simp; omega
theorem anglesB_rev {xs : List Int} (h : anglesB xs = true) : anglesB xs.reverse = true := anglesB_same (by simp) (sum_rev xs) (fun y hy => by simpa using hy) h

/-- How far the rest of the way round is. -/
def restN (n k : Nat) : Nat := (n - k) % n
theorem restN_lt {n k : Nat} (h : 1 ≤ n) : restN n k < n := Nat.mod_lt _ h
theorem restN_int {n k : Nat} (h : k ≤ n) : ((n : Int) - (k : Int)) % (n : Int) = (restN n k : Int) := by
  unfold restN
  rw [show (n : Int) - (k : Int) = ((n - k : Nat) : Int) by omega]
  rfl
theorem restN_neg {n k : Nat} (h : k ≤ n) : (-(k : Int)) % (n : Int) = (restN n k : Int) := by
  have := restN_int h
  rwa [show (n : Int) - (k : Int) = -(k : Int) + (n : Int) by omega, Int.add_emod_right] at this
theorem restN_tmod {n k : Nat} (h : k ≤ n) : ((n : Int) - (k : Int)).tmod (n : Int) = (restN n k : Int) := by
  rw [Int.tmod_eq_emod_of_nonneg (by omega), restN_int h]
theorem restN_pos {n k : Nat} (h : 0 < k) (hk : k < n) : restN n k = n - k := Nat.mod_eq_of_lt (by omega)
theorem restN_zero (n : Nat) : restN n 0 = 0 := by unfold restN; simp
theorem turn_back {xs : List Int} {k : Nat} (hk : k < xs.length) : (xs.drop k ++ xs.take k).drop (restN xs.length k) ++ (xs.drop k ++ xs.take k).take (restN xs.length k) = xs := by
  by_cases h : k = 0
  · subst h; rw [restN_zero]; simp
  · rw [restN_pos (by omega) hk]
    have hl : (xs.drop k).length = xs.length - k := by simp
    rw [← hl, List.drop_left, List.take_left, List.take_append_drop]
theorem turn_rev {xs : List Int} {k : Nat} (hk : k < xs.length) : xs.reverse.drop (restN xs.length k) ++ xs.reverse.take (restN xs.length k) = (xs.drop k ++ xs.take k).reverse := by
  by_cases h : k = 0
  · subst h; rw [restN_zero]; simp
  · rw [restN_pos (by omega) hk, List.reverse_append]
    have e : xs.reverse = (xs.drop k).reverse ++ (xs.take k).reverse := by rw [← List.reverse_append, List.take_append_drop]
    have hl : (xs.drop k).reverse.length = xs.length - k := by simp
    rw [e, ← hl, List.drop_left, List.take_left]

theorem alt_append (a b : List Int) : alt (a ++ b) = alt a + (if a.length % 2 = 0 then alt b else -alt b) := by
  induction a with
  | nil => simp [alt]
  | cons x r ih =>
    simp only [List.cons_append, alt, ih, List.length_cons]
    by_cases h : r.length % 2 = 0
    · rw [if_pos h, if_neg (by omega)]; omega
    · rw [if_neg h, if_pos (by omega)]; omega
theorem alt_rev (xs : List Int) : alt xs.reverse = if xs.length % 2 = 0 then -alt xs else alt xs := by
  induction xs with
  | nil => simp [alt]
  | cons x r ih =>
    rw [List.reverse_cons, alt_snoc, ih, List.length_reverse]
    simp only [alt, List.length_cons]
    by_cases h : r.length % 2 = 0
    · rw [if_pos h, if_pos h, if_neg (by omega)]; omega
    · rw [if_neg h, if_neg h, if_pos (by omega)]; omega
theorem alt_turn {xs : List Int} (k : Nat) (he : xs.length % 2 = 0) (h : alt xs = 0) : alt (xs.drop k ++ xs.take k) = 0 := by
  have e := alt_append (xs.take k) (xs.drop k)
  rw [List.take_append_drop, h] at e
  rw [alt_append]
  have hl : (xs.take k).length + (xs.drop k).length = xs.length := by rw [← List.length_append, List.take_append_drop]
  by_cases hp : (xs.take k).length % 2 = 0
  · rw [if_pos hp] at e; rw [if_pos (by omega)]; omega
  · rw [if_neg hp] at e; rw [if_neg (by omega)]; omega
theorem alt_moved {xs : List Int} (h : 2 ≤ xs.length) : alt ((xs.set 0 (xs[0]?.getD 0 - 1)).set 1 (xs[1]?.getD 0 + 1)) = alt xs - 2 := by
  match xs, h with
  | x :: y :: r, _ => simp [alt]; omega
theorem ev_od_sum {xs : List Int} : ∀ k : Nat, k ≤ xs.length → (xs.take k).sum = evTo xs k + odTo xs k := by
  intro k
  induction k with
  | zero => intro _; simp [evTo, odTo]
  | succ k ih =>
    intro h
    rw [take_snocI xs k (by omega), sum_append', ih (by omega)]
    simp only [evTo, odTo, List.sum_cons, List.sum_nil]
    split <;> omega
theorem ev_half {xs : List Int} (h : anglesB xs = true) (ha : alt xs = 0) : 2 * evTo xs xs.length = 360 := by
  have h1 := ev_od_sum (xs := xs) xs.length (Nat.le_refl _)
  have h2 := ev_od_alt (xs := xs) xs.length (Nat.le_refl _)
  rw [List.take_length] at h1 h2
  have h3 := ((anglesB_iff xs).1 h).2.2.2.2
  omega
theorem ev_two {xs : List Int} {k : Nat} (hk : k % 2 = 0) : evTo xs (k + 2) = evTo xs k + xs[k]?.getD 0 := by
  simp only [evTo]
  rw [if_pos hk, if_neg (by omega)]
theorem ev_bd {xs : List Int} (h : anglesB xs = true) (k : Nat) (hk : k ≤ xs.length) : 0 ≤ evTo xs k ∧ evTo xs k ≤ 10000 := by
  have h0 := (anglesB_iff xs).1 h
  have := (ev_od_bd (xs := xs) (fun x hx => by have := h0.2.2.2.1 x hx; omega) k hk).1
  omega

end Go.Proofs.Ytahbflbhkalehaa
